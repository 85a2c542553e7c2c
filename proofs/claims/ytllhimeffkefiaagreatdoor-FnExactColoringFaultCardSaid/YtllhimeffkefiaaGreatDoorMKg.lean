/- Texts of one proof, joined in their order: each bears its own word of what it holds and on what condition. -/
import Derived.Test.YtllhimeffkefiaaGreatDoorMKf
import Derived.Test.YtllhimeffkefiaaGreatDoorMR
import Derived.Test.YtllhimeffkefiaaGreatDoorMM
set_option linter.unusedVariables false
set_option linter.unusedSimpArgs false
/- The laws' helpers over a colouring: its size, its copy, that it is equal to itself. Condition: no more than 2^20 elements where a copy is made. -/
set_option linter.unusedVariables false
set_option linter.unusedSimpArgs false
namespace Go.Proofs.YtllhimeffkefiaaGreatDoor
open Go.RowKit Go.Sort

set_option maxHeartbeats 1000000 in
set_option maxRecDepth 100000 in
theorem szPartS_any (w : World) (a : Option Addr) (n c : Nat) (left : Int) (hn : n ≤ 9223372036854775807) (h0 : 0 ≤ left) (h1 : left ≤ 1048576) : Calls Tryz.prog 33 #[.slice a n c, .int .i64 left] w (Int1 (lef left n) w) := by
  have hw1 : IntKind.i64.wrap (left - (n : Int)) = left - (n : Int) := wrap64_of _ (by omega) (by omega)
  by_cases hs : left - (n : Int) < 0
  · have f0 : decide (left - (n : Int) < 0) = true := decide_eq_true hs
    go_enter Tryz.func33, Tryz.ntmps33
    go_wp2_with fail
    go_ret
    exact ⟨by rw [lef_lt (by omega)]; rfl, Below.refl _ _⟩
  · have f0 : decide (left - (n : Int) < 0) = false := decide_eq_false hs
    go_enter Tryz.func33, Tryz.ntmps33
    go_wp2_with fail
    go_ret
    exact ⟨by rw [lef_ge (by omega)]; rfl, Below.refl _ _⟩
set_option maxHeartbeats 1000000 in
set_option maxRecDepth 100000 in
theorem szInt64S_any (w : World) (a : Option Addr) (n c : Nat) (left : Int) (hn : n ≤ 9223372036854775807) (h0 : 0 ≤ left) (h1 : left ≤ 1048576) : Calls Tryz.prog 34 #[.slice a n c, .int .i64 left] w (Int1 (lef left n) w) := by
  have hw1 : IntKind.i64.wrap (left - (n : Int)) = left - (n : Int) := wrap64_of _ (by omega) (by omega)
  by_cases hs : left - (n : Int) < 0
  · have f0 : decide (left - (n : Int) < 0) = true := decide_eq_true hs
    go_enter Tryz.func34, Tryz.ntmps34
    go_wp2_with fail
    go_ret
    exact ⟨by rw [lef_lt (by omega)]; rfl, Below.refl _ _⟩
  · have f0 : decide (left - (n : Int) < 0) = false := decide_eq_false hs
    go_enter Tryz.func34, Tryz.ntmps34
    go_wp2_with fail
    go_ret
    exact ⟨by rw [lef_ge (by omega)]; rfl, Below.refl _ _⟩
set_option maxHeartbeats 1000000 in
set_option maxRecDepth 100000 in
theorem szColoring_any (w : World) (S : Nat → Prop) (vc : Value) (cs : List Pt) (cnt : Int) (cl : List Int) (left : Int) (hc : RCol w S vc cs cnt cl) (h0 : 0 ≤ left) (h1 : left ≤ 1048576) : Calls Tryz.prog 8 #[vc, .int .i64 left] w (Int1 (lef left (cs.length + cl.length)) w) := by
  obtain ⟨vp, vq, rfl, hp, hq⟩ := hc
  obtain ⟨ap, cp, rfl⟩ := hp.shape
  obtain ⟨aq, cq, rfl⟩ := hq.shape
  have hpl := hp.len
  have hql := hq.len
  clear hp hq
  have hba := (Below.refl _ w).alloc (Nat.le_refl _) (.cells #[.slice ap cs.length cp, .int .i64 cnt, .slice aq cl.length cq] 29)
  have x0 : (w.alloc (.cells #[.slice ap cs.length cp, .int .i64 cnt, .slice aq cl.length cq] 29)).cell? ⟨w.heap.size, 0, none⟩ = some (.slice ap cs.length cp) := by rw [World.cell?_alloc_mark]; rfl
  have x2 : (w.alloc (.cells #[.slice ap cs.length cp, .int .i64 cnt, .slice aq cl.length cq] 29)).cell? ⟨w.heap.size, 2, none⟩ = some (.slice aq cl.length cq) := by rw [World.cell?_alloc_mark]; rfl
  by_cases hm : (cs.length : Int) ≤ left
  · have e1 : lef left cs.length = left - cs.length := lef_ge hm
    have e2 : lef (left - cs.length) cl.length = lef left (cs.length + cl.length) := lef_two hm
    have f1 : decide (left - (cs.length : Int) < 0) = false := decide_eq_false (by omega)
    have hl3 : 0 ≤ left - (cs.length : Int) := by omega
    have hl4 : left - (cs.length : Int) ≤ 1048576 := by omega
    obtain ⟨L, hL⟩ : ∃ L, lef left (cs.length + cl.length) = L := ⟨_, rfl⟩
    rw [hL] at e2 ⊢
    have hLm : L < 0 → L = -1 := fun q => by rw [← hL] at q ⊢; exact lef_m1 h0 q
    by_cases hL0 : L < 0
    · have hLe := hLm hL0
      subst hLe
      go_enter Tryz.func8, Tryz.ntmps8
      go_wp2_with (first
        | (go_at_call 33; refine (szPartS_any _ _ _ _ left hpl h0 h1).mono ?_; rintro e w1 ⟨rfl, hb1⟩; rw [e1]; have y2 := cell_kept (fun hl => hb1.block _ hl) x2)
        | (go_at_call 34; refine (szInt64S_any _ _ _ _ _ hql hl3 hl4).mono ?_; rintro e w2 ⟨rfl, hb2⟩; rw [e2]))
      go_ret
      exact ⟨rfl, (hba.trans (hb1.mono hba.size)).trans (hb2.mono (Nat.le_trans hba.size hb1.size))⟩
    · have f2 : decide (L < 0) = false := decide_eq_false hL0
      go_enter Tryz.func8, Tryz.ntmps8
      go_wp2_with (first
        | (go_at_call 33; refine (szPartS_any _ _ _ _ left hpl h0 h1).mono ?_; rintro e w1 ⟨rfl, hb1⟩; rw [e1]; have y2 := cell_kept (fun hl => hb1.block _ hl) x2)
        | (go_at_call 34; refine (szInt64S_any _ _ _ _ _ hql hl3 hl4).mono ?_; rintro e w2 ⟨rfl, hb2⟩; rw [e2]))
      go_ret
      exact ⟨rfl, (hba.trans (hb1.mono hba.size)).trans (hb2.mono (Nat.le_trans hba.size hb1.size))⟩
  · have e1 : lef left cs.length = -1 := lef_lt (by omega)
    have e2 : lef left (cs.length + cl.length) = -1 := lef_lt (by omega)
    rw [e2]
    go_enter Tryz.func8, Tryz.ntmps8
    go_wp2_with (go_at_call 33; refine (szPartS_any _ _ _ _ left hpl h0 h1).mono ?_; rintro e w1 ⟨rfl, hb1⟩; rw [e1])
    go_ret
    exact ⟨rfl, hba.trans (hb1.mono hba.size)⟩
set_option maxHeartbeats 1000000 in
set_option maxRecDepth 100000 in
theorem toPart_any (w : World) (x : Pt) : Calls Tryz.prog 74 #[.agg #[.int .i64 x.node, .int .i64 x.num]] w (New (fun _ _ v => v = .agg #[.int .i64 x.node, .int .i64 x.num]) w) := by
  go_enter Tryz.func74, Tryz.ntmps74
  go_wp2
  exact bodyPost_ret (v := .agg #[.int .i64 x.node, .int .i64 x.num]) (by simp [results, Tryz.results74, go_sem]) rfl ⟨_, rfl, rfl, (((Below.refl _ w).alloc (Nat.le_refl _) _).alloc (by simp) _).alloc (by simp <;> omega) _, (((Free.start w).alloc _ _).alloc _ _).alloc _ _⟩
set_option maxHeartbeats 1000000 in
set_option maxRecDepth 100000 in
theorem toPartS_any (w : World) (S : Nat → Prop) (v : Value) (ss : List Pt) (h : RPt w S v ss) (hl : ss.length ≤ 1048576) :
    Calls Tryz.prog 41 #[v] w (New (fun w S v => RPt w S v ss) w) := by
  obtain ⟨a, c, rfl⟩ := h.shape
  obtain ⟨C, hC, hmk⟩ := make_run (T := 38) (E := 70) (z := .agg #[.int .i64 0, .int .i64 0]) (sz := 2) (by' := 16) Tryz.underlying38 (by kernel_rfl) (by decide) ss.length hl w
  go_enter Tryz.func41, Tryz.ntmps41
  go_wp2
  clear hmk
  have F0 := Fill.start 2 EPt w C 70 ss.length hC
  have B0 : Below w.heap.size w (w.alloc (.cells C 70)) := (Below.refl _ _).alloc (Nat.le_refl _) _
  have Z0 : Free w.heap.size (w.alloc (.cells C 70)) := (Free.start w).alloc _ _
  go_loopw [4] (fun i wr => ∃ k : Nat, k ≤ ss.length ∧ i = .int .i64 k ∧ Fill 2 EPt wr w.heap.size ss.length (ss.take k) ∧ Below w.heap.size w wr ∧ Free w.heap.size wr) (fun i _ => ss.length - (intOf i).toNat)
  case atStart => exact ⟨0, by omega, rfl, F0, B0, Z0⟩
  case round =>
    obtain ⟨k, hk, rfl, hF, hnx, hz⟩ := hrel
    clear F0 B0 Z0
    by_cases hlt : k < ss.length
    · obtain ⟨b, o, rfl, -, d0, d1⟩ := RPt.at (h.below EPt.kept hnx) hlt
      go_wp2_with (go_at_call 74; refine (toPart_any _ ss[k]).mono ?_; rintro e w1 ⟨v, rfl, rfl, hb1, hz1⟩; have hF1 := hF.below EPt.kept hb1; obtain ⟨u0, hu0⟩ := hF1.1 (k * 2) (by omega); obtain ⟨u1, hu1⟩ := hF1.1 (k * 2 + 1) (by omega); have hz2 := hz.trans hb1 (hz1); have f0 := hz2 w.heap.size (k * 2) (Nat.le_refl _); have f1 := hz2 w.heap.size (k * 2 + 1) (Nat.le_refl _))
      go_roundw
      case rel =>
        have hF2 := (hF.below EPt.kept hb1).step (sz := 2) EPt.kept (x := ss[k]) (us := [.int .i64 ss[k].node, .int .i64 ss[k].num]) rfl (by rw [len_take' ss k hk]; exact hlt) ⟨rfl, rfl⟩
        rw [← take_snoc' ss k hlt, len_take' ss k hk] at hF2
        exact ⟨k + 1, by omega, by go_num, hF2, sets_below (Nat.le_refl _) [.int .i64 ss[k].node, .int .i64 ss[k].num] (k * 2) _ (hnx.trans (hb1.mono hnx.size)), hz2.sets _ (k * 2) [.int .i64 ss[k].node, .int .i64 ss[k].num]⟩
      case measure => simp [intOf]; omega
    · obtain rfl : k = ss.length := by omega
      go_wp2
      go_ret
      rw [List.take_length] at hF
      exact ⟨_, rfl, hF.done EPt.mono (Nat.le_refl _) (by omega), hnx, hz⟩
set_option maxHeartbeats 1000000 in
set_option maxRecDepth 100000 in
theorem toInt64S_any (w : World) (S : Nat → Prop) (v : Value) (ss : List Int) (h : RInt w S v ss) (hl : ss.length ≤ 1048576) :
    Calls Tryz.prog 42 #[v] w (New (fun w S v => RInt w S v ss) w) := by
  obtain ⟨a, c, rfl⟩ := h.shape
  obtain ⟨C, hC, hmk⟩ := make_run (T := 27) (E := 2) (z := .int .i64 0) (sz := 1) (by' := 8) Tryz.underlying27 (by kernel_rfl) (by decide) ss.length hl w
  go_enter Tryz.func42, Tryz.ntmps42
  go_wp2
  clear hmk
  have F0 := Fill.start 1 EInt w C 2 ss.length hC
  have B0 : Below w.heap.size w (w.alloc (.cells C 2)) := (Below.refl _ _).alloc (Nat.le_refl _) _
  have Z0 : Free w.heap.size (w.alloc (.cells C 2)) := (Free.start w).alloc _ _
  go_loopw [4] (fun i wr => ∃ k : Nat, k ≤ ss.length ∧ i = .int .i64 k ∧ Fill 1 EInt wr w.heap.size ss.length (ss.take k) ∧ Below w.heap.size w wr ∧ Free w.heap.size wr) (fun i _ => ss.length - (intOf i).toNat)
  case atStart => exact ⟨0, by omega, rfl, F0, B0, Z0⟩
  case round =>
    obtain ⟨k, hk, rfl, hF, hnx, hz⟩ := hrel
    clear F0 B0 Z0
    by_cases hlt : k < ss.length
    · obtain ⟨b, o, rfl, -, d⟩ := RInt.at (h.below EInt.kept hnx) hlt
      obtain ⟨v0, hv0⟩ := hF.1 k (by omega)
      have hf0 := hz w.heap.size k (Nat.le_refl _)
      go_wp2
      go_roundw
      case rel =>
        have hF' := hF.step (sz := 1) EInt.kept (x := ss[k]) (us := [.int .i64 ss[k]]) rfl (by rw [len_take' ss k hk]; exact hlt) rfl
        rw [← take_snoc' ss k hlt, len_take' ss k hk, Nat.mul_one] at hF'
        exact ⟨k + 1, by omega, by go_num, hF', sets_below (Nat.le_refl _) [.int .i64 ss[k]] k _ hnx, hz.sets _ k [.int .i64 ss[k]]⟩
      case measure => simp [intOf]; omega
    · obtain rfl : k = ss.length := by omega
      go_wp2
      go_ret
      rw [List.take_length] at hF
      exact ⟨_, rfl, hF.done EInt.mono (Nat.le_refl _) (by omega), hnx, hz⟩
end Go.Proofs.YtllhimeffkefiaaGreatDoor
/- The laws' copy of a colouring, and that it is equal to itself; a colouring that a caller hands in. Condition: no more than 2^20 elements where a copy is made. -/
set_option linter.unusedVariables false
set_option linter.unusedSimpArgs false
namespace Go.Proofs.YtllhimeffkefiaaGreatDoor
open Go.RowKit Go.Sort Go.Deep Go.ChangeShapes Go.WideShapes

set_option maxHeartbeats 2000000 in
set_option maxRecDepth 100000 in
theorem toColoring_any (w : World) (S : Nat → Prop) (vc : Value) (cs : List Pt) (cnt : Int) (cl : List Int) (hc : RCol w S vc cs cnt cl) (l1 : cs.length ≤ 1048576) (l2 : cl.length ≤ 1048576) :
    Calls Tryz.prog 11 #[vc] w (New (fun w S v => RCol w S v cs cnt cl) w) := by
  obtain ⟨vp, vq, rfl, hp, hq⟩ := hc
  obtain ⟨ap, cp, rfl⟩ := hp.shape
  obtain ⟨aq, cq, rfl⟩ := hq.shape
  have hb0 := (((Below.refl _ w).alloc (Nat.le_refl _) (.cells #[.slice ap cs.length cp, .int .i64 cnt, .slice aq cl.length cq] 29)).alloc (by simp) (.cells #[.slice none 0 0, .int .i64 0, .slice none 0 0] 40)).alloc (by simp <;> omega) (.cells #[.slice none 0 0, .int .i64 0, .slice none 0 0] 40)
  have hz0 := (((Free.start w).alloc #[.slice ap cs.length cp, .int .i64 cnt, .slice aq cl.length cq] 29).alloc #[.slice none 0 0, .int .i64 0, .slice none 0 0] 40).alloc #[.slice none 0 0, .int .i64 0, .slice none 0 0] 40
  go_enter Tryz.func11, Tryz.ntmps11
  go_wp2_with (first
    | (go_at_call 41; refine (toPartS_any _ S _ cs (hp.below EPt.kept hb0) l1).mono ?_; rintro e w1 ⟨x1, rfl, r1, hb1, hz1⟩; obtain ⟨a3, c3, rfl⟩ := r1.shape; obtain ⟨hc1, hf1⟩ := bcell hb1; have hs1 : w.heap.size + 1 + 1 < w1.heap.size := (by have := hb1.size; simp at this; omega); have hs2 : w.heap.size + 1 < w1.heap.size := (by omega); have hs3 : w.heap.size < w1.heap.size := (by omega); have hb2 := ((hb0.trans (hb1.mono (by simp <;> omega))).setCell (p := ⟨w.heap.size + 1 + 1, 0, none⟩) (by simp <;> omega) (.slice a3 cs.length c3)).setCell (p := ⟨w.heap.size + 1 + 1, 1, none⟩) (by simp <;> omega) (.int .i64 cnt); have hz2 := ((hz0.trans hb1 hz1).set ⟨w.heap.size + 1 + 1, 0, none⟩ (.slice a3 cs.length c3)).set ⟨w.heap.size + 1 + 1, 1, none⟩ (.int .i64 cnt))
    | (go_at_call 42; refine (toInt64S_any _ S _ cl (hq.below EInt.kept hb2) l2).mono ?_; rintro e w2 ⟨x2, rfl, r2, hb3, hz3⟩; obtain ⟨a4, c4, rfl⟩ := r2.shape; obtain ⟨hc2, hf2⟩ := bcell hb3; have hs4 : w.heap.size + 1 + 1 < w2.heap.size := (by have := hb3.size; simp at this; omega)))
  have R1 := (((((((r1.set EPt.kept (a := ⟨w.heap.size + 1 + 1, 0, none⟩) (by simp <;> omega) (.slice a3 cs.length c3)).set EPt.kept (a := ⟨w.heap.size + 1 + 1, 1, none⟩) (by simp <;> omega) (.int .i64 cnt)).below EPt.kept hb3).set EPt.kept (a := ⟨w.heap.size + 1 + 1, 2, none⟩) (by simp <;> omega) (.slice a4 cl.length c4)).set EPt.kept (a := ⟨w.heap.size + 1, 0, none⟩) (by simp <;> omega) (.slice a3 cs.length c3)).set EPt.kept (a := ⟨w.heap.size + 1, 1, none⟩) (by simp <;> omega) (.int .i64 cnt)).set EPt.kept (a := ⟨w.heap.size + 1, 2, none⟩) (by simp <;> omega) (.slice a4 cl.length c4)).mono EPt.mono (S' := fun b => w.heap.size ≤ b) (fun b hb => by simp at hb; omega)
  have R2 := ((((r2.set EInt.kept (a := ⟨w.heap.size + 1 + 1, 2, none⟩) (by simp <;> omega) (.slice a4 cl.length c4)).set EInt.kept (a := ⟨w.heap.size + 1, 0, none⟩) (by simp <;> omega) (.slice a3 cs.length c3)).set EInt.kept (a := ⟨w.heap.size + 1, 1, none⟩) (by simp <;> omega) (.int .i64 cnt)).set EInt.kept (a := ⟨w.heap.size + 1, 2, none⟩) (by simp <;> omega) (.slice a4 cl.length c4)).mono EInt.mono (S' := fun b => w.heap.size ≤ b) (fun b hb => by simp at hb; omega)
  refine bodyPost_ret (v := .agg #[.slice a3 cs.length c3, .int .i64 cnt, .slice a4 cl.length c4]) (by simp [results, Tryz.results11, go_sem, hc1, hc2, hs2]) rfl ⟨_, rfl, ⟨_, _, rfl, R1, R2⟩, ?_, ?_⟩
  · exact ((((hb2.trans (hb3.mono (by simp <;> omega))).setCell (by simp <;> omega) _).setCell (by simp) _).setCell (by simp) _).setCell (by simp) _
  · exact ((((hz2.trans hb3 hz3).set _ _).set _ _).set _ _).set _ _
set_option maxHeartbeats 1000000 in
set_option maxRecDepth 100000 in
theorem eqColoring_any (w : World) (S S' : Nat → Prop) (v v' : Value) (cs : List Pt) (cnt : Int) (cl : List Int) (h : RCol w S v cs cnt cl) (h' : RCol w S' v' cs cnt cl) : Calls Tryz.prog 14 #[v, v'] w (Tru w) := by
  obtain ⟨vp, vq, rfl, hp, hq⟩ := h
  obtain ⟨ap, cp, rfl⟩ := hp.shape
  obtain ⟨aq, cq, rfl⟩ := hq.shape
  obtain ⟨vp', vq', rfl, hp', hq'⟩ := h'
  obtain ⟨ap', cp', rfl⟩ := hp'.shape
  obtain ⟨aq', cq', rfl⟩ := hq'.shape
  have hb1 := (Below.refl _ w).alloc (Nat.le_refl _) (.cells #[.slice ap cs.length cp, .int .i64 cnt, .slice aq cl.length cq] 40)
  have hba := hb1.alloc hb1.size (.cells #[.slice ap' cs.length cp', .int .i64 cnt, .slice aq' cl.length cq'] 40)
  have e1 : (w.alloc (.cells #[.slice ap cs.length cp, .int .i64 cnt, .slice aq cl.length cq] 40)).heap.size = w.heap.size + 1 := by simp
  have x0 : ((w.alloc (.cells #[.slice ap cs.length cp, .int .i64 cnt, .slice aq cl.length cq] 40)).alloc (.cells #[.slice ap' cs.length cp', .int .i64 cnt, .slice aq' cl.length cq'] 40)).cell? ⟨w.heap.size, 0, none⟩ = some (.slice ap cs.length cp) := cell_alloc (by rw [World.cell?_alloc_mark]; rfl) _
  have x1 : ((w.alloc (.cells #[.slice ap cs.length cp, .int .i64 cnt, .slice aq cl.length cq] 40)).alloc (.cells #[.slice ap' cs.length cp', .int .i64 cnt, .slice aq' cl.length cq'] 40)).cell? ⟨w.heap.size, 1, none⟩ = some (.int .i64 cnt) := cell_alloc (by rw [World.cell?_alloc_mark]; rfl) _
  have x2 : ((w.alloc (.cells #[.slice ap cs.length cp, .int .i64 cnt, .slice aq cl.length cq] 40)).alloc (.cells #[.slice ap' cs.length cp', .int .i64 cnt, .slice aq' cl.length cq'] 40)).cell? ⟨w.heap.size, 2, none⟩ = some (.slice aq cl.length cq) := cell_alloc (by rw [World.cell?_alloc_mark]; rfl) _
  have y0 : ((w.alloc (.cells #[.slice ap cs.length cp, .int .i64 cnt, .slice aq cl.length cq] 40)).alloc (.cells #[.slice ap' cs.length cp', .int .i64 cnt, .slice aq' cl.length cq'] 40)).cell? ⟨w.heap.size + 1, 0, none⟩ = some (.slice ap' cs.length cp') := by rw [← e1, World.cell?_alloc_mark]; rfl
  have y1 : ((w.alloc (.cells #[.slice ap cs.length cp, .int .i64 cnt, .slice aq cl.length cq] 40)).alloc (.cells #[.slice ap' cs.length cp', .int .i64 cnt, .slice aq' cl.length cq'] 40)).cell? ⟨w.heap.size + 1, 1, none⟩ = some (.int .i64 cnt) := by rw [← e1, World.cell?_alloc_mark]; rfl
  have y2 : ((w.alloc (.cells #[.slice ap cs.length cp, .int .i64 cnt, .slice aq cl.length cq] 40)).alloc (.cells #[.slice ap' cs.length cp', .int .i64 cnt, .slice aq' cl.length cq'] 40)).cell? ⟨w.heap.size + 1, 2, none⟩ = some (.slice aq' cl.length cq') := by rw [← e1, World.cell?_alloc_mark]; rfl
  have p1 := hp.below EPt.kept hba
  have p2 := hp'.below EPt.kept hba
  have q1 := hq.below EInt.kept hba
  have q2 := hq'.below EInt.kept hba
  have f0 : (cnt != cnt) = false := by simp
  clear e1 hb1
  go_enter Tryz.func14, Tryz.ntmps14
  go_wp2_with (first
    | (go_at_call 46; refine (eqPartS_any _ _ _ _ _ cs p1 p2).mono ?_; rintro e w1 ⟨rfl, hb2⟩; have z1 := cell_kept (fun hl => hb2.block _ hl) x1; have z2 := cell_kept (fun hl => hb2.block _ hl) x2; have t1 := cell_kept (fun hl => hb2.block _ hl) y1; have t2 := cell_kept (fun hl => hb2.block _ hl) y2; have q3 := q1.below EInt.kept hb2; have q4 := q2.below EInt.kept hb2)
    | (go_at_call 17; refine (eqInt64S_any _ _ _ _ _ cl q3 q4).mono ?_; rintro e w2 ⟨rfl, hb3⟩))
  go_ret
  exact ⟨rfl, (hba.trans (hb2.mono hba.size)).trans (hb3.mono (Nat.le_trans hba.size hb2.size))⟩

section
variable {H : Type} {enc : TypeId × Value → H} {w : World} {sp : Nat → Bool} {held : Bool}
theorem opens_pt : Opens enc w sp held 128 EPt := fun fuel cs x h => by
  obtain ⟨xs, n, _, _, _, hlen, hf⟩ := DataW.trod_struct Tryz.underlying128 h
  obtain ⟨x0, h0⟩ := at_field hlen hf (i := 0) rfl
  obtain ⟨x1, h1⟩ := at_field hlen hf (i := 1) rfl
  obtain ⟨s, e0, _, _⟩ := DataW.trod_int Tryz.underlying2 h0
  obtain ⟨t, e1, _, _⟩ := DataW.trod_int Tryz.underlying2 h1
  exact ⟨⟨s, t⟩, one_at e0, one_at e1⟩
theorem opens_int : Opens enc w sp held 2 EInt := fun fuel cs x h => by
  obtain ⟨s, e0, _, _⟩ := DataW.trod_int Tryz.underlying2 h
  subst e0
  exact ⟨s, rfl⟩
set_option maxRecDepth 100000 in
/-- a colouring that came in -/
theorem open_coloring {r : Reach} {b0 : Nat} {v : Value} {d : DataW H} {p : List MemPlace} (hv : Value.okWide Tryz.prog w r b0 29 v) (h : DataW.Trod enc Tryz.prog w 0 sp held 29 v d p) : ∃ cs cnt cl, RCol w (fun _ => True) v cs cnt cl ∧ I64 cnt := by
  obtain ⟨cs, rfl, hsz⟩ := okWide_struct Tryz.underlying29 hv
  have hsz := hsz.trans (show Tryz.prog.cellsOf 29 = 3 by kernel_rfl)
  obtain ⟨fuel, hf0⟩ := h
  obtain ⟨xs, n, _, _, _, hlen, hf⟩ := DataW.trod_struct Tryz.underlying29 hf0
  obtain ⟨x0, h0⟩ := at_field hlen hf (i := 0) rfl
  obtain ⟨x1, h1⟩ := at_field hlen hf (i := 1) rfl
  obtain ⟨x2, h2⟩ := at_field hlen hf (i := 2) rfl
  obtain ⟨v1, ps, e1, r1⟩ := open_row Tryz.underlying26 (sz := 2) (by kernel_rfl) (by decide) opens_pt h0
  obtain ⟨i, e2, _, hwf⟩ := DataW.trod_int Tryz.underlying2 h1
  obtain ⟨v2, es, e3, r2⟩ := open_row Tryz.underlying27 (sz := 1) (by kernel_rfl) (by decide) opens_int h2
  refine ⟨ps, i, es, ⟨v1, v2, ?_, r1, r2⟩, i64_wf hwf⟩
  obtain ⟨l⟩ := cs
  match l, hsz with
  | [c0, c1, c2], _ =>
    have a := one_at e1
    have b := one_at e2
    have c := one_at e3
    simp [Value.cells] at a b c
    rw [← a, ← b, ← c]
end
end Go.Proofs.YtllhimeffkefiaaGreatDoor
/- The law FnExactColoringFault, walked: it answers true for every graph and every colouring. Condition: the library's variables are as they were laid; the count is a number of 64 bits. -/
set_option linter.unusedVariables false
set_option linter.unusedSimpArgs false
namespace Go.Proofs.YtllhimeffkefiaaGreatDoor
open Go.RowKit Go.Sort

/-- the arguments' boxes, and all that was there before -/
structure Ag2 (w W : World) (v1 v2 u0 u1 u2 : Value) : Prop where
  below : Below w.heap.size w W
  x0 : W.cell? ⟨w.heap.size, 0, none⟩ = some v1
  x1 : W.cell? ⟨w.heap.size, 1, none⟩ = some v2
  y0 : W.cell? ⟨w.heap.size + 1, 0, none⟩ = some u0
  y1 : W.cell? ⟨w.heap.size + 1, 1, none⟩ = some u1
  y2 : W.cell? ⟨w.heap.size + 1, 2, none⟩ = some u2
theorem Ag2.step {w W W' : World} {v1 v2 u0 u1 u2 : Value} (h : Ag2 w W v1 v2 u0 u1 u2) (hb : Below W.heap.size W W') : Ag2 w W' v1 v2 u0 u1 u2 :=
  ⟨h.below.trans (hb.mono h.below.size), cell_kept (fun hl => hb.block _ hl) h.x0, cell_kept (fun hl => hb.block _ hl) h.x1, cell_kept (fun hl => hb.block _ hl) h.y0, cell_kept (fun hl => hb.block _ hl) h.y1, cell_kept (fun hl => hb.block _ hl) h.y2⟩
set_option maxHeartbeats 4000000 in
set_option maxRecDepth 100000 in
theorem law_coloringfault (w : World) (hE : Env w) (S : Nat → Prop) (v vc : Value) (g : Gr) (cs : List Pt) (cnt : Int) (cl : List Int) (h : RGr w S v g) (hc : RCol w S vc cs cnt cl) (hcI : I64 cnt) : Calls Tryz.prog 3 #[v, vc] w (SaysTrue w) := by
  obtain ⟨a1, c1, a2, c2, hv⟩ := h.shape
  have hc' := hc
  obtain ⟨vp, vq, hvc, hp, hq⟩ := hc'
  obtain ⟨ap, cp, hap⟩ := hp.shape
  obtain ⟨aq, cq, haq⟩ := hq.shape
  rw [hap, haq] at hvc
  clear hp hq hap haq
  obtain ⟨n1, hn1⟩ : ∃ n, g.nodes.length = n := ⟨_, rfl⟩
  obtain ⟨n2, hn2⟩ : ∃ n, g.edges.length = n := ⟨_, rfl⟩
  obtain ⟨m, hm⟩ : ∃ n, cs.length = n := ⟨_, rfl⟩
  obtain ⟨k, hk⟩ : ∃ n, cl.length = n := ⟨_, rfl⟩
  rw [hn1, hn2] at hv
  rw [hm, hk] at hvc
  have HN1 := Lib.hid hn1
  have HN2 := Lib.hid hn2
  have HM := Lib.hid hm
  have HK := Lib.hid hk
  clear hn1 hn2 hm hk
  subst hv
  subst hvc
  have hb1 := (Below.refl _ w).alloc (Nat.le_refl _) (.cells #[.slice a1 n1 c1, .slice a2 n2 c2] 25)
  have hb0 := hb1.alloc hb1.size (.cells #[.slice ap m cp, .int .i64 cnt, .slice aq k cq] 29)
  have e1 : (w.alloc (.cells #[.slice a1 n1 c1, .slice a2 n2 c2] 25)).heap.size = w.heap.size + 1 := by simp
  have A0 : Ag2 w ((w.alloc (.cells #[.slice a1 n1 c1, .slice a2 n2 c2] 25)).alloc (.cells #[.slice ap m cp, .int .i64 cnt, .slice aq k cq] 29)) (.slice a1 n1 c1) (.slice a2 n2 c2) (.slice ap m cp) (.int .i64 cnt) (.slice aq k cq) :=
    ⟨hb0, cell_alloc (by rw [World.cell?_alloc_mark]; rfl) _, cell_alloc (by rw [World.cell?_alloc_mark]; rfl) _, by rw [← e1, World.cell?_alloc_mark]; rfl, by rw [← e1, World.cell?_alloc_mark]; rfl, by rw [← e1, World.cell?_alloc_mark]; rfl⟩
  have r0 := h.below hb0
  have x0 := A0.x0
  have x1 := A0.x1
  go_enter Tryz.func3, Tryz.ntmps3
  go_upto_region 3 with (go_at_call 7; refine (szGraph_any _ S _ g 1048576 r0 (by decide) (by decide)).mono ?_; rintro e w1 ⟨rfl, hb1⟩)
  by_cases hsm : bGr g ≤ 1048576
  case neg =>
    rw [show lef 1048576 (bGr g) = -1 by unfold lef; rw [if_neg (by omega)]]
    go_wp2_with fail
    go_ret
    exact ⟨rfl, hb0.trans (hb1.mono hb0.size)⟩
  obtain ⟨L, hL, hL0, hL1⟩ : ∃ L, lef 1048576 (bGr g) = L ∧ 0 ≤ L ∧ L ≤ 1048576 := ⟨_, rfl, by unfold lef; rw [if_pos (by omega)]; omega, lef_up _ (by decide)⟩
  rw [hL]
  have f0 : decide (L < 0) = false := decide_eq_false (by omega)
  obtain ⟨l1, l2, lim1, lim2, hmk⟩ := small_of hsm
  have A1 := A0.step hb1
  have q0 := A1.y0
  have q1 := A1.y1
  have q2 := A1.y2
  have hc1 := hc.below A1.below
  clear hL hsm hb0 r0 hb1 e1 x0 x1
  go_upto_region 6 with (go_at_call 8; refine (szColoring_any _ S _ cs cnt cl L hc1 hL0 hL1).mono ?_; rintro e w2 ⟨rfl, hb2⟩)
  have A2 := A1.step hb2
  by_cases hsm2 : ((cs.length + cl.length : Nat) : Int) ≤ L
  case neg =>
    rw [lef_lt (by omega)]
    go_wp2_with fail
    go_ret
    exact ⟨rfl, A2.below⟩
  obtain ⟨L2, hL2, hL3⟩ : ∃ L2, lef L (cs.length + cl.length) = L2 ∧ 0 ≤ L2 := ⟨_, rfl, by rw [lef_ge hsm2]; omega⟩
  rw [hL2]
  have f1 : decide (L2 < 0) = false := decide_eq_false (by omega)
  have l3 : cs.length ≤ 1048576 := by omega
  have l4 : cl.length ≤ 1048576 := by omega
  clear hL2 hsm2 q0 q1 q2 hc1 hb2 A1
  have B2 := A2.step (below_drew w2)
  have x0 := A2.x0
  have x1 := A2.x1
  have y0 := A2.y0
  have y1 := A2.y1
  have y2 := A2.y2
  have tG0 : True := trivial
  have tC0 : True := trivial
  go_upto_region 8 with fail
  go_region_law (first
    | (have := tC0; go_simp; go_at_call 10; clear tG0; refine (toGraph_any w2.drew S _ g (h.below B2.below) l1 l2 lim1 lim2).mono ?_; rintro e w3 ⟨gu, rfl, rG, hb3, _⟩; have tG1 : True := trivial; have y0 := (B2.step hb3).y0; have y1 := (B2.step hb3).y1; have y2 := (B2.step hb3).y2)
    | (have := tG0; go_simp; go_at_call 11; clear tC0; refine (toColoring_any w2.drew S _ cs cnt cl (hc.below B2.below) l3 l4).mono ?_; rintro e w3 ⟨gu, rfl, rC, hb3, _⟩; have tC1 : True := trivial; have x0 := (B2.step hb3).x0; have x1 := (B2.step hb3).x1)
    | (have := tG1; go_simp; go_at_call 11; clear tG1; refine (toColoring_any w3 S _ cs cnt cl (hc.below (B2.step hb3).below) l3 l4).mono ?_; rintro e w4 ⟨gc, rfl, rC, hb4, _⟩; have rG := rG.below hb4; have tB : True := trivial)
    | (have := tC1; go_simp; go_at_call 10; clear tC1; refine (toGraph_any w3 S _ g (h.below (B2.step hb3).below) l1 l2 lim1 lim2).mono ?_; rintro e w4 ⟨gc, rfl, rG, hb4, _⟩; have rC := rC.below hb4; have tB : True := trivial)
    | (have := tB; go_simp; go_at_call 9; refine (scolfault_any w4 _ _ _ _ g cs cnt cl rG rC hcI).mono ?_; rintro e w5 ⟨b, rfl, hbS, hb5⟩))
  all_goals
    have A5 := ((B2.step hb3).step hb4).step hb5
    clear rG rC hb3 hb4 hb5 x0 x1 y0 y1 y2 B2 A2
    obtain ⟨z, hz⟩ : ∃ z : Int, (if b = true then (0 : Int) else 1) = z := ⟨_, rfl⟩
    simp only [hz]
    have HZ := Lib.hid hz
    clear hz
    have x0 := A5.x0
    have x1 := A5.x1
    have r5 := h.below A5.below
    go_upto_region 9 with fail
    go_upto_region 10 with (go_at_call 10; refine (toGraph_any _ S _ g r5 l1 l2 lim1 lim2).mono ?_; rintro e w6 ⟨gv, rfl, rG, hb6, _⟩; obtain ⟨ga, gc', gb, gd, rfl⟩ := rG.shape)
    have hb7 := (Below.refl _ w6).alloc (Nat.le_refl _) (.cells #[.slice ga g.nodes.length gc', .slice gb g.edges.length gd] 36)
    have t0 : (w6.alloc (.cells #[.slice ga g.nodes.length gc', .slice gb g.edges.length gd] 36)).cell? ⟨w6.heap.size, 0, none⟩ = some (.slice ga g.nodes.length gc') := by rw [World.cell?_alloc_mark]; rfl
    have t1 : (w6.alloc (.cells #[.slice ga g.nodes.length gc', .slice gb g.edges.length gd] 36)).cell? ⟨w6.heap.size, 1, none⟩ = some (.slice gb g.edges.length gd) := by rw [World.cell?_alloc_mark]; rfl
    have A7 := (A5.step hb6).step hb7
    have rG7 := rG.below hb7
    clear hb6 hb7 rG x0 x1 r5 A5
    generalize w6.alloc (.cells #[.slice ga g.nodes.length gc', .slice gb g.edges.length gd] 36) = w7 at t0 t1 A7 rG7 ⊢
    obtain ⟨b6, hb6⟩ : ∃ x, w6.heap.size = x := ⟨_, rfl⟩
    rw [hb6] at t0 t1
    simp only [hb6]
    clear hb6
    have y0 := A7.y0
    have y1 := A7.y1
    have y2 := A7.y2
    have hc7 := hc.below A7.below
    go_upto_region 11 with (go_at_call 11; refine (toColoring_any _ S _ cs cnt cl hc7 l3 l4).mono ?_; rintro e w8 ⟨gc, rfl, rC, hb8, _⟩; have rC' := rC; obtain ⟨vp', vq', rfl, hp', hq'⟩ := rC'; obtain ⟨ap', cp', rfl⟩ := hp'.shape; obtain ⟨aq', cq', rfl⟩ := hq'.shape)
    have hb9 := (Below.refl _ w8).alloc (Nat.le_refl _) (.cells #[.slice ap' cs.length cp', .int .i64 cnt, .slice aq' cl.length cq'] 40)
    have s0 : (w8.alloc (.cells #[.slice ap' cs.length cp', .int .i64 cnt, .slice aq' cl.length cq'] 40)).cell? ⟨w8.heap.size, 0, none⟩ = some (.slice ap' cs.length cp') := by rw [World.cell?_alloc_mark]; rfl
    have s1 : (w8.alloc (.cells #[.slice ap' cs.length cp', .int .i64 cnt, .slice aq' cl.length cq'] 40)).cell? ⟨w8.heap.size, 1, none⟩ = some (.int .i64 cnt) := by rw [World.cell?_alloc_mark]; rfl
    have s2 : (w8.alloc (.cells #[.slice ap' cs.length cp', .int .i64 cnt, .slice aq' cl.length cq'] 40)).cell? ⟨w8.heap.size, 2, none⟩ = some (.slice aq' cl.length cq') := by rw [World.cell?_alloc_mark]; rfl
    have hb89 := hb8.trans (hb9.mono hb8.size)
    have A9 := A7.step hb89
    have rG9 := rG7.below hb89
    have rC9 := rC.below hb9
    have t0 := cell_kept (fun hl => hb89.block _ hl) t0
    have t1 := cell_kept (fun hl => hb89.block _ hl) t1
    clear hb8 hb9 hb89 rC rG7 A7 hc7 y0 y1 y2 hp' hq'
    generalize w8.alloc (.cells #[.slice ap' cs.length cp', .int .i64 cnt, .slice aq' cl.length cq'] 40) = w9 at s0 s1 s2 t0 t1 A9 rG9 rC9 ⊢
    obtain ⟨b8, hb8⟩ : ∃ x, w8.heap.size = x := ⟨_, rfl⟩
    rw [hb8] at s0 s1 s2
    simp only [hb8]
    clear hb8
    go_upto_region 12 with (go_at_call 12; refine (colfault_any _ (hE.below A9.below) _ _ _ _ g cs cnt cl rG9 rC9 hcI).mono ?_; rintro e w10 ⟨b', rfl, hbI, hb10⟩)
    have hbb := hbI.same hbS
    subst hbb
    have hz := HZ.out
    rw [hz]
    have f3 : (z != z) = false := by simp
    have A10 := A9.step hb10
    have t0 := cell_kept (fun hl => hb10.block _ hl) t0
    have t1 := cell_kept (fun hl => hb10.block _ hl) t1
    have s0 := cell_kept (fun hl => hb10.block _ hl) s0
    have s1 := cell_kept (fun hl => hb10.block _ hl) s1
    have s2 := cell_kept (fun hl => hb10.block _ hl) s2
    have rG10 := rG9.below hb10
    have rC10 := rC9.below hb10
    clear hb10 A9 rG9 rC9 hz hbI hbS
    have x0 := A10.x0
    have x1 := A10.x1
    have A10d := A10.step (below_drew w10)
    have rG10d := rG10.below (below_drew w10)
    go_upto_region 14 with fail
    go_region_law (first
      | (go_simp; go_at_call 10; refine (toGraph_any w10.drew S _ g (h.below A10d.below) l1 l2 lim1 lim2).mono ?_; rintro e w11a ⟨gw, rfl, r11, hb11, _⟩; have t2 := cell_kept (fun hl => hb11.block _ hl) t0; have t3 := cell_kept (fun hl => hb11.block _ hl) t1; have rg11 := rG10d.below hb11)
      | (go_simp; go_at_call 13; refine (eqGraph_any _ _ _ _ _ g rg11 r11).mono ?_; rintro e w11 ⟨rfl, hb11b⟩))
    all_goals
      have hbX : Below w10.heap.size w10 w11 := (below_drew w10).trans ((hb11.mono (below_drew w10).size).trans (hb11b.mono (Nat.le_trans (below_drew w10).size hb11.size)))
      have A11 := A10.step hbX
      have s0 := cell_kept (fun hl => hbX.block _ hl) s0
      have s1 := cell_kept (fun hl => hbX.block _ hl) s1
      have s2 := cell_kept (fun hl => hbX.block _ hl) s2
      have rC11 := rC10.below hbX
      have y0 := A11.y0
      have y1 := A11.y1
      have y2 := A11.y2
      have A11d := A11.step (below_drew w11)
      have rC11d := rC11.below (below_drew w11)
      clear hb11 hb11b r11 rg11 t0 t1 t2 t3 x0 x1 A10 A10d rG10 rG10d rC10 hbX
      go_upto_region 16 with fail
      go_region_law (first
        | (go_simp; go_at_call 11; refine (toColoring_any w11.drew S _ cs cnt cl (hc.below A11d.below) l3 l4).mono ?_; rintro e w12a ⟨gw, rfl, r12, hb12, _⟩; have t2 := cell_kept (fun hl => hb12.block _ hl) s0; have t3 := cell_kept (fun hl => hb12.block _ hl) s1; have t4 := cell_kept (fun hl => hb12.block _ hl) s2; have rc12 := rC11d.below hb12)
        | (go_simp; go_at_call 14; refine (eqColoring_any _ _ _ _ _ cs cnt cl rc12 r12).mono ?_; rintro e w12 ⟨rfl, hb12b⟩))
      all_goals
        have hbY := A11d.below.trans ((hb12.trans (hb12b.mono hb12.size)).mono A11d.below.size)
        go_wp2_with fail
        go_ret
        exact ⟨rfl, hbY⟩
end Go.Proofs.YtllhimeffkefiaaGreatDoor
