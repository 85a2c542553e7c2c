/- Texts of one proof, joined in their order: each bears its own word of what it holds and on what condition. -/
import Derived.Test.YtllhimeffkefiaaGreatDoorMWd
import Derived.Test.YtllhimeffkefiaaGreatDoorMYd
set_option linter.unusedVariables false
set_option linter.unusedSimpArgs false
/- impl's row of the ends of the edges at a node. Condition: a right graph. -/
set_option linter.unusedVariables false
set_option linter.unusedSimpArgs false
namespace Go.Proofs.YtllhimeffkefiaaGreatDoor
open Go.RowKit Go.Sort

def EndsR (es : List Ed) (ag : Bool) (id : Int) (w : World) (e : Ending) (w' : World) : Prop := ∃ vv, e = .returned vv ∧ w'.ownsRow w.heap.size 2 1 vv (ends es ag id).length ((ends es ag id).map (Value.int .i64)) ∧ Below w.heap.size w w'
theorem own_snoc {w9 : World} {B : Nat} {g cap : Nat} {l l2 : List Int} {x : Int} (h : w9.ownsRow B 2 1 (.slice (some ⟨g, 0, none⟩) (l.length + 1) cap) (l.length + 1) (l.map (Value.int .i64) ++ [.int .i64 x])) (hl : l2 = l ++ [x]) : w9.ownsRow B 2 1 (.slice (some ⟨g, 0, none⟩) (l.length + 1) cap) l2.length (l2.map (Value.int .i64)) := by
  subst hl
  rw [List.length_append, List.map_append]
  exact h
set_option maxHeartbeats 2000000 in
set_option maxRecDepth 100000 in
theorem around_any (w : World) (S : Nat → Prop) (v : Value) (g : Gr) (h : RGr w S v g) (hw : Gw g) (id : Int) (ag : Bool) :
    Calls Tryz.prog 52 #[v, .int .i64 id, .bool ag] w (EndsR g.edges ag id w) := by
  obtain ⟨v1, v2, rfl, h1, h2⟩ := h
  obtain ⟨a1, c1, rfl⟩ := h1.shape
  obtain ⟨a2, c2, rfl⟩ := h2.shape
  obtain ⟨n1, hn1⟩ : ∃ n, g.nodes.length = n := ⟨_, rfl⟩
  obtain ⟨n2, hn2⟩ : ∃ n, g.edges.length = n := ⟨_, rfl⟩
  have HN2 := Lib.hid hn2
  rw [hn2] at h2
  rw [hn1, hn2]
  have hlen := hw.e
  rw [hn2] at hlen
  clear h1 hn1 hn2
  have hn2' : (n2 : Int) ≤ 400 := by omega
  have hba := (Below.refl _ w).alloc (Nat.le_refl _) (.cells #[.slice a1 n1 c1, .slice a2 n2 c2] 36)
  obtain ⟨i0, hi0, hz0, hz1, hz2⟩ := info_parts (show (Tryz.prog.info? 2).map (fun i => (i.zero, i.size, i.bytes)) = some (some (.int .i64 0), 1, 8) by kernel_rfl)
  go_enter Tryz.func52, Tryz.ntmps52
  go_wp2_with fail
  go_loopw [7, 13] (fun out iv wr => ∃ j : Nat, j ≤ n2 ∧ iv = .int .i64 j ∧ Below w.heap.size w wr ∧ wr.ownsRow w.heap.size 2 1 out (ends (g.edges.take j) ag id).length ((ends (g.edges.take j) ag id).map (Value.int .i64))) (fun _ iv _ => n2 - (intOf iv).toNat)
  case atStart => exact ⟨0, by omega, rfl, hba, World.ownsRow_nil _ _ _ _⟩
  case round =>
    obtain ⟨j, hj, rfl, hb, hown⟩ := hrel
    by_cases hlt : j < n2
    · have f0 : decide ((j : Int) < n2) = true := decide_eq_true (by omega)
      have f0' : decide (j < n2) = true := decide_eq_true hlt
      have hlt2 : (j : Int) < n2 := by omega
      have hjE : j < g.edges.length := by rw [HN2.out]; exact hlt
      have hEr := h2.below EEd.kept hb
      obtain ⟨bE, oE, l3, d3, rfl, -, ed0, ed1, ed2, ed3, ed4, -, -⟩ := REd.at hEr hjE
      have hT := ends_snoc (ag := ag) (id := id) hjE
      have hL := ends_len g.edges ag id j
      generalize g.edges[j] = ed at ed0 ed1 ed2 ed3 ed4 hT
      obtain ⟨yi, yt, ys, yd, yf⟩ := ed
      simp only at ed0 ed1 ed2 ed3 ed4 hT
      obtain ⟨yl, hyl⟩ : ∃ x, yf.length = x := ⟨_, rfl⟩
      rw [hyl] at ed4
      clear hyl hEr
      unfold endOf at hT
      simp only at hT
      generalize ends (g.edges.take j) ag id = P at hown hT hL
      go_upto_region 5 with fail
      have hbA := (Below.refl _ wr).alloc (Nat.le_refl _) (.cells #[.int .i64 yi, .string yt, .int .i64 ys, .int .i64 yd, .slice l3 yl d3] 122)
      have hbW := hb.alloc hb.size (.cells #[.int .i64 yi, .string yt, .int .i64 ys, .int .i64 yd, .slice l3 yl d3] 122)
      have hown2 := hown.alloc (.cells #[.int .i64 yi, .string yt, .int .i64 ys, .int .i64 yd, .slice l3 yl d3] 122)
      have d2' : (wr.alloc (.cells #[.int .i64 yi, .string yt, .int .i64 ys, .int .i64 yd, .slice l3 yl d3] 122)).cell? ⟨wr.heap.size, 2, none⟩ = some (.int .i64 ys) := by rw [World.cell?_alloc_mark]; rfl
      have d3' : (wr.alloc (.cells #[.int .i64 yi, .string yt, .int .i64 ys, .int .i64 yd, .slice l3 yl d3] 122)).cell? ⟨wr.heap.size, 3, none⟩ = some (.int .i64 yd) := by rw [World.cell?_alloc_mark]; rfl
      clear hown hb ed0 ed1 ed2 ed3 ed4 hbA
      generalize wr.alloc (.cells #[.int .i64 yi, .string yt, .int .i64 ys, .int .i64 yd, .slice l3 yl d3] 122) = W2 at hbW hown2 d2' d3' ⊢
      obtain ⟨be, hbe⟩ : ∃ b, wr.heap.size = b := ⟨_, rfl⟩
      rw [hbe] at d2' d3'
      simp only [hbe]
      clear hbe
      have hsz2 := hbW.size
      have hP400 : P.length ≤ 400 := by omega
      cases ag with
      | false =>
        simp only [Bool.false_eq_true, if_false] at hT
        by_cases hs : ys = id
        · rw [if_pos hs] at hT
          have g1 : decide (ys = id) = true := decide_eq_true hs
          have g2 : (ys == id) = true := by rw [beq_iff_eq]; exact hs
          have HT := Lib.hid hT
          clear hT hs
          go_wp2_with (at_builtin; refine wpList_append_lies _ rfl (.tmp 25) (.tmp 28) 27 rfl w.heap.size 2 i0 (.int .i64 0) 1 8 Tryz.underlying27 hi0 hz0 hz1 hz2 rfl (by decide) _ P.length (P.map (Value.int .i64)) rfl (hown2.alloc _) ⟨_, 0, none⟩ 1 1 [.int .i64 yd] rfl rfl (new_cells (by simp) _ _) (by intro u hu; simp at hu; subst hu; rfl) (by decide) (by unfold maxLen; omega) (by omega) (by simp; omega) _ rfl ?_; intro gg cap w9 hown9 hgrow9 hat9 hlt9; have hgrow9 : World.grownBy _ w9 u7.ownBlock := hgrow9)
          go_round
          case rel => exact ⟨j + 1, by omega, by go_num, (hbW.alloc hsz2 _).grown hgrow9 (by simp; omega) (fun q hq => (hown2.lt q hq).1), own_snoc hown9 HT.out⟩
          case measure => simp [intOf]; omega
        · rw [if_neg hs] at hT
          have g1 : decide (ys = id) = false := decide_eq_false hs
          have g2 : (ys == id) = false := by rw [beq_eq_false_iff_ne]; exact hs
          have HT := Lib.hid (hT.trans (List.append_nil P))
          clear hT hs
          go_wp2_with fail
          go_round
          case rel => exact ⟨j + 1, by omega, by go_num, hbW, by rw [HT.out]; exact hown2⟩
          case measure => simp [intOf]; omega
      | true =>
        simp only [if_true] at hT
        by_cases hs : yd = id
        · rw [if_pos hs] at hT
          have g1 : decide (yd = id) = true := decide_eq_true hs
          have g2 : (yd == id) = true := by rw [beq_iff_eq]; exact hs
          have HT := Lib.hid hT
          clear hT hs
          go_wp2_with (at_builtin; refine wpList_append_lies _ rfl (.tmp 37) (.tmp 40) 27 rfl w.heap.size 2 i0 (.int .i64 0) 1 8 Tryz.underlying27 hi0 hz0 hz1 hz2 rfl (by decide) _ P.length (P.map (Value.int .i64)) rfl (hown2.alloc _) ⟨_, 0, none⟩ 1 1 [.int .i64 ys] rfl rfl (new_cells (by simp) _ _) (by intro u hu; simp at hu; subst hu; rfl) (by decide) (by unfold maxLen; omega) (by omega) (by simp; omega) _ rfl ?_; intro gg cap w9 hown9 hgrow9 hat9 hlt9; have hgrow9 : World.grownBy _ w9 u7.ownBlock := hgrow9)
          go_round
          case rel => exact ⟨j + 1, by omega, by go_num, (hbW.alloc hsz2 _).grown hgrow9 (by simp; omega) (fun q hq => (hown2.lt q hq).1), own_snoc hown9 HT.out⟩
          case measure => simp [intOf]; omega
        · rw [if_neg hs] at hT
          have g1 : decide (yd = id) = false := decide_eq_false hs
          have g2 : (yd == id) = false := by rw [beq_eq_false_iff_ne]; exact hs
          have HT := Lib.hid (hT.trans (List.append_nil P))
          clear hT hs
          go_wp2_with fail
          go_round
          case rel => exact ⟨j + 1, by omega, by go_num, hbW, by rw [HT.out]; exact hown2⟩
          case measure => simp [intOf]; omega
    · have hj3 : j = n2 := by omega
      subst hj3
      have f0 : decide ((j : Int) < j) = false := decide_eq_false (by omega)
      rw [List.take_of_length_le (by rw [HN2.out]; omega)] at hown
      go_wp2_with fail
      go_ret
      exact ⟨_, rfl, hown, hb⟩
end Go.Proofs.YtllhimeffkefiaaGreatDoor
