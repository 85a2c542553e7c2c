/- Texts of one proof, joined in their order: each bears its own word of what it holds and on what condition. -/
import Derived.Test.YtaoccbhdlkflfaaGreatDoorMP
set_option linter.unusedVariables false
set_option linter.unusedSimpArgs false
/- slices.IndexFunc and slices.DeleteFunc of one node by its Id. Condition: the node is there, once; what is cut lies in a row of the caller's own. -/
set_option linter.unusedVariables false
set_option linter.unusedSimpArgs false
namespace Go.Proofs.YtaoccbhdlkflfaaGreatDoor
open Go.RowKit Go.Sort

set_option maxHeartbeats 1000000 in
set_option maxRecDepth 100000 in
theorem cutclo_any (w : World) (bn : Nat) (v id : Int) (a1 a2 : Option Addr) (n1 n2 c1 c2 : Nat) (b : Bool) (hb : (id == v) = b) (hc : w.cell? ⟨bn, 0, none⟩ = some (.int .i64 v)) : Calls Tryz.prog 49 #[.agg #[.int .i64 id, .slice a1 n1 c1, .slice a2 n2 c2], .pointer (some ⟨bn, 0, none⟩)] w (fun e w' => e = .returned (.bool b) ∧ Below w.heap.size w w') := by
  have hc1 : ∀ o, (w.alloc o).cell? ⟨bn, 0, none⟩ = some (.int .i64 v) := fun o => cell_kept (fun hl => ((Below.refl _ w).alloc (Nat.le_refl _) o).block _ hl) hc
  go_enter Tryz.func49, Tryz.ntmps49
  go_wp2
  go_ret
  exact ⟨rfl, (Below.refl _ w).alloc (Nat.le_refl _) _⟩
set_option maxHeartbeats 1000000 in
set_option maxRecDepth 100000 in
theorem indexNd_any (w : World) (S : Nat → Prop) (g n cap : Nat) (ns : List Nd) (h : RNd w S (.slice (some ⟨g, 0, none⟩) n cap) ns) (hl : ns.length = n) (hn : n ≤ 1048576) (bn : Nat) (v : Int) (hc : w.cell? ⟨bn, 0, none⟩ = some (.int .i64 v)) (i : Nat) (hi : i < ns.length) (hv : ns[i].id = v) (hne : ∀ j (hj : j < ns.length), j < i → ns[j].id ≠ v) :
    Calls Tryz.prog 68 #[.slice (some ⟨g, 0, none⟩) n cap, .func (.func 49) #[] #[.pointer (some ⟨bn, 0, none⟩)]] w (fun e w' => e = .returned (.int .i64 i) ∧ Below w.heap.size w w') := by
  have hn2 : (n : Int) ≤ 1048576 := by omega
  have HV := Lib.hid hv
  have HNE := Lib.hid hne
  clear hv hne
  go_enter Tryz.func68, Tryz.ntmps68
  go_wp2_with fail
  go_loopw [5, 8] (fun _ kk wr => ∃ k : Nat, k ≤ i ∧ kk = .int .i64 k ∧ Below w.heap.size w wr) (fun _ kk wr => n - (intOf kk).toNat)
  case atStart => exact ⟨0, by omega, rfl, Below.refl _ _⟩
  case round =>
    obtain ⟨k, hk, rfl, hb⟩ := hrel
    have hlt : k < n := by omega
    have hltN : k < ns.length := by omega
    have f0 : decide ((k : Int) < n) = true := decide_eq_true (by omega)
    have f0' : decide (k < n) = true := decide_eq_true hlt
    have hlt2 : (k : Int) < n := by omega
    obtain ⟨b, o, l1, d1, l2, d2, hbo, hS0, hcc, hcl, hcf, _, _⟩ := RNd.at (h.below ENd.kept hb) hltN
    have hbo := Addr.mk.inj (Option.some.inj hbo)
    obtain ⟨e1, e2, _⟩ := hbo
    subst e1 e2
    rw [Nat.zero_add] at hcc hcl hcf
    have hcb := cell_kept (fun hl => hb.block _ hl) hc
    have hclo := fun (b : Bool) (hb : (ns[k].id == v) = b) => cutclo_any wr bn v ns[k].id l1 l2 ns[k].labels.length ns[k].fields.length d1 d2 b hb hcb
    obtain ⟨xi, hxi⟩ : ∃ xi, ns[k].id = xi := ⟨_, rfl⟩
    obtain ⟨xl, hxl⟩ : ∃ xl, ns[k].labels.length = xl := ⟨_, rfl⟩
    obtain ⟨xf, hxf⟩ : ∃ xf, ns[k].fields.length = xf := ⟨_, rfl⟩
    rw [hxi] at hcc
    rw [hxl] at hcl
    rw [hxf] at hcf
    rw [hxi, hxl, hxf] at hclo
    have HXI := Lib.hid hxi
    clear hxi hxl hxf
    by_cases hki : k = i
    · have hT := hclo true (by subst hki; rw [← HV.out, ← HXI.out]; simp)
      have HKI := Lib.hid hki
      clear hclo hki
      go_wp2_with (go_at_call 49; refine hT.mono ?_; rintro e w6 ⟨rfl, hb6⟩)
      go_ret
      exact ⟨by rw [HKI.out]; rfl, hb.trans (hb6.mono hb.size)⟩
    · have hF := hclo false (by have := HNE.out k hltN (by omega); rw [HXI.out] at this; simpa using this)
      clear hclo
      go_wp2_with (go_at_call 49; refine hF.mono ?_; rintro e w6 ⟨rfl, hb6⟩)
      go_round
      case rel => exact ⟨k + 1, by omega, by go_num, hb.trans (hb6.mono hb.size)⟩
      case measure => simp [intOf]; omega
/-- where a cell's value comes from, i cut out, shifted so far to p -/
def sh (i p c : Nat) : Nat := if i * 3 ≤ c ∧ c < p * 3 then c + 3 else c
set_option maxHeartbeats 2000000 in
set_option maxRecDepth 100000 in
/-- the row g, m + 1 nodes, without that at i -/
theorem deleteNd_any (w : World) (S : Nat → Prop) (g m cap i : Nat) (news : List Value) (ns : List Nd) (hrep : Rep 3 ENd w S news ns) (hS : ∀ b, S b → b ≠ g) (hl : ns.length = m + 1) (hn : m + 1 ≤ 1048576) (hi : i < ns.length) (hcap : m + 1 ≤ cap) (hm : cap ≤ maxLen) (hat : At w g 0 news) (hf : ∀ o, w.frozen? ⟨g, o, none⟩ = false)
    (bn : Nat) (v : Int) (hc : w.cell? ⟨bn, 0, none⟩ = some (.int .i64 v)) (hbn : bn ≠ g) (hv : ns[i].id = v) (hne : ∀ j (hj : j < ns.length), j ≠ i → ns[j].id ≠ v) :
    Calls Tryz.prog 47 #[.slice (some ⟨g, 0, none⟩) (m + 1) cap, .func (.func 49) #[] #[.pointer (some ⟨bn, 0, none⟩)]] w (fun e w' => e = .returned (.slice (some ⟨g, 0, none⟩) m cap) ∧ At w' g 0 (news.take (i * 3) ++ news.drop ((i + 1) * 3)) ∧ w.grownBy w' (some g)) := by
  have hz : ∀ w, (zeroValue 55).run Tryz.prog w = .ok (.agg #[.int .i64 0, .slice none 0 0, .slice none 0 0]) w := fun w => by kernel_rfl
  have hm' : cap ≤ 9223372036854775807 := by unfold maxLen at hm; omega
  have hgl : g < w.heap.size := by
    have h0 : 0 < news.length := by rw [hrep.1]; omega
    exact lt_of_cell (hat 0 _ (List.getElem?_eq_getElem h0))
  have hrow := (hrep.mono ENd.mono (S' := fun _ => True) (fun _ _ => trivial)).row (c := cap) hat trivial (by omega)
  rw [hl] at hrow
  have hidx := indexNd_any w _ g (m + 1) cap ns hrow hl hn bn v hc i hi hv (fun j hj hji => hne j hj (by omega))
  have hcells : ∀ c, c < (m + 1) * 3 → w.cell? ⟨g, c, none⟩ = some (news.getD (sh i i c) undef) := fun c hc => by
    have e : sh i i c = c := by unfold sh; rw [if_neg (by omega)]
    rw [e]
    have hcl : c < news.length := by rw [hrep.1, hl]; exact hc
    have := hat c _ (List.getElem?_eq_getElem hcl)
    rw [Nat.zero_add] at this
    rw [this, getD_eq hcl]
  have hi1 : ((i : Int) == -1) = false := by rw [beq_eq_false_iff_ne]; omega
  have him : i ≤ m := by omega
  have hm2 : ((m + 1 : Nat) : Int) ≤ 1048576 := by omega
  have HNE := Lib.hid hne
  have HF := Lib.hid hf
  clear hv hne hrow hat hf
  go_enter Tryz.func47, Tryz.ntmps47
  go_upto_region 2 with (go_at_call 68; refine hidx.mono ?_; rintro e w1 ⟨rfl, hb1⟩)
  go_wp2_with fail
  have hn3 : news.length = (m + 1) * 3 := by rw [hrep.1, hl]
  go_loopw [5, 6, 7] (fun iv jv _ wr => ∃ p : Nat, i ≤ p ∧ p ≤ m ∧ iv = .int .i64 p ∧ jv = .int .i64 ((p : Int) + 1) ∧ w.grownBy wr (some g) ∧ (∀ c, c < (m + 1) * 3 → wr.cell? ⟨g, c, none⟩ = some (news.getD (sh i p c) undef)) ∧ ∀ o, wr.frozen? ⟨g, o, none⟩ = false) (fun _ jv _ wr => m + 1 - (intOf jv).toNat)
  case atStart => exact ⟨i, Nat.le_refl _, him, rfl, rfl, ⟨hb1.os, hb1.tape, hb1.output, hb1.size, fun b hl _ => hb1.block b hl⟩, fun c hc => cell_kept (fun hl => hb1.block _ hl) (hcells c hc), fun o => (World.frozen?_of_block (a := ⟨g, o, none⟩) (hb1.block g hgl)).trans (HF.out o)⟩
  case round =>
    clear hb1 hcells hidx
    obtain ⟨p, hip, hpm, rfl, rfl, hgr, hcel, hfro⟩ := hrel
    by_cases hlt : p < m
    · have hpN : p + 1 < ns.length := by omega
      have f0 : decide ((p : Int) + 1 < ((m + 1 : Nat) : Int)) = true := decide_eq_true (by omega)
      have f0' : decide (p + 1 < m + 1) = true := decide_eq_true (by omega)
      have hlt2 : (p : Int) + 1 < ((m + 1 : Nat) : Int) := by omega
      have hlt3 : (p : Int) < ((m + 1 : Nat) : Int) := by omega
      have hlt4 : p < m + 1 := by omega
      have hlt5 : p + 1 < m + 1 := by omega
      have hp0 : (0 : Int) ≤ (p : Int) + 1 := by omega
      obtain ⟨f, hfn, hE⟩ := hrep.2 (p + 1) _ (List.getElem?_eq_getElem hpN)
      obtain ⟨k0, k1, k2⟩ := hE
      obtain ⟨l1, d1, k1⟩ := k1.shape
      obtain ⟨l2, d2, k2⟩ := k2.shape
      have hv : ∀ q, q < 3 → news.getD ((p + 1) * 3 + q) undef = f q := fun q hq => by
        rw [List.getD_eq_getElem?_getD, hfn q hq]; rfl
      have hcc : ∀ q, q < 3 → wr.cell? ⟨g, (p + 1) * 3 + q, none⟩ = some (f q) := fun q hq => by
        rw [hcel _ (by omega), show sh i p ((p + 1) * 3 + q) = (p + 1) * 3 + q by unfold sh; rw [if_neg (by omega)], hv q hq]
      have w0 := hcc 0 (by omega)
      have w1' := hcc 1 (by omega)
      have w2 := hcc 2 (by omega)
      rw [Nat.add_zero, k0] at w0
      rw [k1] at w1'
      rw [k2] at w2
      have hcb := cell_kept (fun hl => hgr.block _ hl (fun e => hbn (Option.some.inj e))) hc
      have hneq : (ns[p + 1].id == v) = false := by have := HNE.out (p + 1) hpN (by omega); simpa using this
      obtain ⟨xi, hxi⟩ : ∃ xi, ns[p + 1].id = xi := ⟨_, rfl⟩
      obtain ⟨xl, hxl⟩ : ∃ xl, ns[p + 1].labels.length = xl := ⟨_, rfl⟩
      obtain ⟨xf, hxf⟩ : ∃ xf, ns[p + 1].fields.length = xf := ⟨_, rfl⟩
      rw [hxi] at w0 k0 hneq
      rw [hxl] at w1' k1
      rw [hxf] at w2 k2
      have HCEL := Lib.hid hcel
      clear hxi hxl hxf hcel hcc
      go_upto_region 8 with fail
      have hba := (Below.refl _ wr).alloc (Nat.le_refl _) (.cells #[.int .i64 xi, .slice l1 xl d1, .slice l2 xf d2] 55)
      have b0 : (wr.alloc (.cells #[.int .i64 xi, .slice l1 xl d1, .slice l2 xf d2] 55)).cell? ⟨wr.heap.size, 0, none⟩ = some (.int .i64 xi) := by rw [World.cell?_alloc_mark]; rfl
      have b1 : (wr.alloc (.cells #[.int .i64 xi, .slice l1 xl d1, .slice l2 xf d2] 55)).cell? ⟨wr.heap.size, 1, none⟩ = some (.slice l1 xl d1) := by rw [World.cell?_alloc_mark]; rfl
      have b2 : (wr.alloc (.cells #[.int .i64 xi, .slice l1 xl d1, .slice l2 xf d2] 55)).cell? ⟨wr.heap.size, 2, none⟩ = some (.slice l2 xf d2) := by rw [World.cell?_alloc_mark]; rfl
      generalize wr.alloc (.cells #[.int .i64 xi, .slice l1 xl d1, .slice l2 xf d2] 55) = W2 at hba b0 b1 b2 ⊢
      obtain ⟨bv, hbv⟩ : ∃ b, wr.heap.size = b := ⟨_, rfl⟩
      rw [hbv] at b0 b1 b2
      simp only [hbv]
      clear hbv
      have hcl := cutclo_any W2 bn v xi l1 l2 xl xf d1 d2 false hneq (cell_kept (fun hl => hba.block _ hl) hcb)
      go_upto_region 9 with (go_at_call 49; refine hcl.mono ?_; rintro e w6 ⟨rfl, hb6⟩)
      have hW6 := hba.trans (hb6.mono hba.size)
      have b0 := cell_kept (fun hl => hb6.block _ hl) b0
      have b1 := cell_kept (fun hl => hb6.block _ hl) b1
      have b2 := cell_kept (fun hl => hb6.block _ hl) b2
      have hgw : g < wr.heap.size := Nat.lt_of_lt_of_le hgl hgr.size
      have y := fun c hc => cell_kept (fun hl => hW6.block _ hl) (HCEL.out c hc)
      have y0 := y (p * 3) (by omega)
      have y1 := y (p * 3 + 1) (by omega)
      have y2 := y (p * 3 + 2) (by omega)
      have YY := Lib.hid y
      have hfr : ∀ o, w6.frozen? ⟨g, o, none⟩ = false := fun o => (World.frozen?_of_block (a := ⟨g, o, none⟩) (hW6.block g hgw)).trans (hfro o)
      obtain ⟨x0, hx0⟩ : ∃ x, news.getD (sh i p (p * 3)) undef = x := ⟨_, rfl⟩
      obtain ⟨x1, hx1⟩ : ∃ x, news.getD (sh i p (p * 3 + 1)) undef = x := ⟨_, rfl⟩
      obtain ⟨x2, hx2⟩ : ∃ x, news.getD (sh i p (p * 3 + 2)) undef = x := ⟨_, rfl⟩
      rw [hx0] at y0
      rw [hx1] at y1
      rw [hx2] at y2
      clear hx0 hx1 hx2 y
      clear hcl
      go_wp2_with fail
      go_round
      case rel =>
        have hex : ∀ j, j < ([.int .i64 xi, .slice l1 xl d1, .slice l2 xf d2] : List Value).length → ∃ x, w6.cell? ⟨g, p * 3 + j, none⟩ = some x := fun j hj => ⟨_, YY.out (p * 3 + j) (by have : j < 3 := hj; omega)⟩
        have hat := sets_at g [.int .i64 xi, .slice l1 xl d1, .slice l2 xf d2] (p * 3) w6 hex
        have hg6 : w.grownBy w6 (some g) := ⟨hW6.os.trans hgr.os, hW6.tape.trans hgr.tape, hW6.output.trans hgr.output, Nat.le_trans hgr.size hW6.size, fun b hl hne => (hW6.block b (Nat.lt_of_lt_of_le hl hgr.size)).trans (hgr.block b hl hne)⟩
        refine ⟨p + 1, by omega, by omega, by go_num, by go_num, ?_, fun c hc => ?_, fun o => (sets_frozen g [.int .i64 xi, .slice l1 xl d1, .slice l2 xf d2] (p * 3) w6 _).trans (hfr o)⟩
        · have hs := sets_below (B := 0) (g := g) (a := w6) (Nat.zero_le _) [.int .i64 xi, .slice l1 xl d1, .slice l2 xf d2] (p * 3) w6 (Below.refl _ _)
          exact ⟨hs.os.trans hg6.os, hs.tape.trans hg6.tape, hs.output.trans hg6.output, Nat.le_trans hg6.size hs.size, fun b hl hne => (sets_heap g [.int .i64 xi, .slice l1 xl d1, .slice l2 xf d2] (p * 3) w6 b (fun e => hne (by rw [e]))).trans (hg6.block b hl hne)⟩
        · by_cases hin : p * 3 ≤ c ∧ c < p * 3 + 3
          · have h1 := hat (c - p * 3) (by show c - p * 3 < 3; omega)
            rw [show p * 3 + (c - p * 3) = c by omega] at h1
            have h2 : news.getD (sh i (p + 1) c) undef = f (c - p * 3) := by
              rw [← hv (c - p * 3) (by omega)]
              congr 1
              unfold sh
              rw [if_pos (by omega)]
              omega
            rw [h2]
            refine h1.trans ?_
            rcases (show c - p * 3 = 0 ∨ c - p * 3 = 1 ∨ c - p * 3 = 2 by omega) with e | e | e
            · rw [e, k0]; rfl
            · rw [e, k1]; rfl
            · rw [e, k2]; rfl
          · have h2 : sh i (p + 1) c = sh i p c := by
              unfold sh
              by_cases a : i * 3 ≤ c ∧ c < p * 3
              · rw [if_pos a, if_pos (by omega)]
              · rw [if_neg a, if_neg (by omega)]
            rw [h2]
            exact (sets_other g [.int .i64 xi, .slice l1 xl d1, .slice l2 xf d2] (p * 3) w6 g c (.inr (by show c < p * 3 ∨ p * 3 + 3 ≤ c; omega))).trans (YY.out c hc)
      case measure => simp [intOf]; omega
    · have hpm2 : p = m := by omega
      subst hpm2
      have f0 : decide ((p : Int) + 1 < ((p + 1 : Nat) : Int)) = false := decide_eq_false (by omega)
      have hcl : ∀ ty, (Builtin.clear_ #[29] ty #[.slice (some ⟨g, p * 3, none⟩) 1 (cap - p)]).run Tryz.prog wr = .ok (.tuple #[]) (wr.setCells g (p * 3) [.int .i64 0, .slice none 0 0, .slice none 0 0]) := fun ty =>
        run_clear_one wr _ _ ty _ #[.int .i64 0, .slice none 0 0, .slice none 0 0] Tryz.underlying29 hz rfl (by intro u hu; simp at hu; rcases hu with rfl | rfl <;> rfl) g (p * 3) _ (fun j hj => by
          have hj5 : j < 3 := hj
          rw [hcel (p * 3 + j) (by omega)]; rfl) (fun j hj => hfro _)
      have hcm : p ≤ cap := by omega
      have hcm2 : (p : Int) ≤ cap := by omega
      have hcm3 : (p : Int) ≤ ((p + 1 : Nat) : Int) := by omega
      have hcm4 : ¬ cap = p := by omega
      have hc3 : (cap : Int) ≤ 9223372036854775807 := by omega
      have HCEL := Lib.hid hcel
      clear hcel
      go_wp2_with fail
      go_ret
      refine ⟨rfl, fun c u hu => ?_, ?_⟩
      · have hcl := (List.getElem?_eq_some_iff.1 hu).1
        rw [List.length_append, List.length_take, List.length_drop, hn3] at hcl
        rw [Nat.zero_add, World.cell?_setCells_out g _ _ _ _ (fun _ _ => .inl (by show c < p * 3; omega)), HCEL.out c (by omega)]
        unfold sh
        by_cases hci : c < i * 3
        · rw [if_neg (by omega)]
          rw [List.getElem?_append_left (by rw [List.length_take]; omega), List.getElem?_take, if_pos hci] at hu
          rw [List.getD_eq_getElem?_getD, hu]; rfl
        · rw [if_pos (by omega)]
          rw [List.getElem?_append_right (by rw [List.length_take]; omega), List.getElem?_drop, List.length_take] at hu
          rw [show (i + 1) * 3 + (c - min (i * 3) news.length) = c + 3 by omega] at hu
          rw [List.getD_eq_getElem?_getD, hu]; rfl
      · rw [setCells_sets]
        have hs := sets_below (B := 0) (g := g) (a := wr) (Nat.zero_le _) [.int .i64 0, .slice none 0 0, .slice none 0 0] (p * 3) wr (Below.refl _ _)
        exact ⟨hs.os.trans hgr.os, hs.tape.trans hgr.tape, hs.output.trans hgr.output, Nat.le_trans hgr.size hs.size, fun b hl hne => (sets_heap g _ _ _ b (fun e => hne (by rw [e]))).trans (hgr.block b hl hne)⟩
end Go.Proofs.YtaoccbhdlkflfaaGreatDoor
