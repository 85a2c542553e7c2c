/- Texts of one proof, joined in their order: each bears its own word of what it holds and on what condition. -/
import Derived.Test.YtllhimeffkefiaaGreatDoorML
import Derived.Test.YtllhimeffkefiaaGreatDoorMFh
set_option linter.unusedVariables false
set_option linter.unusedSimpArgs false
/- The laws' helpers over rows of entries: equal, marked, held. Condition: fewer than 1000000 entries. -/
set_option linter.unusedVariables false
set_option linter.unusedSimpArgs false
namespace Go.Proofs.YtllhimeffkefiaaGreatDoor
open Go.RowKit Go.Sort

set_option maxHeartbeats 1000000 in
set_option maxRecDepth 100000 in
theorem eqHub_any (w : World) (x : Pt) : Calls Tryz.prog 66 #[.agg #[.int .i64 x.node, .int .i64 x.num], .agg #[.int .i64 x.node, .int .i64 x.num]] w (Tru w) := by
  go_enter Tryz.func66, Tryz.ntmps66
  go_wp2
  go_ret
  exact ⟨rfl, ((Below.refl _ w).alloc (Nat.le_refl _) _).alloc (by simp) _⟩

set_option maxHeartbeats 1000000 in
set_option maxRecDepth 100000 in
theorem eqHubS_any (w : World) (S S' : Nat → Prop) (v v' : Value) (ss : List Pt) (h : RPt w S v ss) (h' : RPt w S' v' ss) : Calls Tryz.prog 28 #[v, v'] w (Tru w) := by
  obtain ⟨a, c, rfl⟩ := h.shape
  obtain ⟨a', c', rfl⟩ := h'.shape
  have hl := h.len
  go_enter Tryz.func28, Tryz.ntmps28
  go_wp2
  go_loopw [5] (fun i wr => ∃ k : Nat, k ≤ ss.length ∧ i = .int .i64 k ∧ Below w.heap.size w wr) (fun i _ => ss.length - (intOf i).toNat)
  case atStart => exact ⟨0, by omega, rfl, Below.refl _ _⟩
  case round =>
    obtain ⟨k, hk, rfl, hnx⟩ := hrel
    by_cases hlt : k < ss.length
    · obtain ⟨b, o, rfl, -, d0, d1⟩ := RPt.at (h.below EPt.kept hnx) hlt
      obtain ⟨b', o', rfl, -, d0', d1'⟩ := RPt.at (h'.below EPt.kept hnx) hlt
      have hb := lt_of_cell d0
      have hb' := lt_of_cell d0'
      go_wp2_with fail
      go_region_held3 (fun w' => Below wr.heap.size wr w' ∧ ∀ b o, b < wr.heap.size → w'.cell? ⟨b, o, none⟩ = wr.cell? ⟨b, o, none⟩) (first | exact keep0 _ | exact keep1 ‹_› ‹_› | go_keep)
        (first | (go_at_call 66; refine (eqHub_any _ ss[k]).mono ?_; rintro e w1 ⟨rfl, hb1⟩))
      rename_i hS
      go_wp2
      go_roundw
      case rel => exact ⟨k + 1, by omega, by go_num, hnx.trans (hS.1.mono hnx.size)⟩
      case measure => simp [intOf]; omega
    · obtain rfl : k = ss.length := by omega
      go_wp2
      go_ret
      exact ⟨rfl, hnx⟩

set_option maxHeartbeats 1000000 in
set_option maxRecDepth 100000 in
theorem markHubS_any (w : World) (B : Nat) (v : Value) (n : Nat) (h : Own 2 w B v n) (hl : n ≤ 1000000) : Calls Tryz.prog 29 #[v, .int .i64 1] w (NumsMade 2 v n (1 + 2 * n) w) := by
  obtain ⟨a, c, rfl, h⟩ := h
  go_enter Tryz.func29, Tryz.ntmps29
  go_wp2
  go_loopw [1, 5] (fun q i wr => ∃ k : Nat, k ≤ n ∧ i = .int .i64 k ∧ q = .int .i64 ((1 + 2 * k : Nat) : Int) ∧ But (.slice a n c) w wr ∧ (∀ g, a = some ⟨g, 0, none⟩ → 0 < n → Nums' 2 wr g k n)) (fun _ i _ => n - (intOf i).toNat)
  case atStart =>
    refine ⟨0, by omega, rfl, rfl, ⟨rfl, rfl, rfl, Nat.le_refl _, fun _ _ _ => rfl⟩, fun g hg hn => ?_⟩
    rcases h with h | ⟨g', ha, _, _, hc, hf⟩
    · omega
    · rw [ha] at hg
      cases hg
      exact ⟨fun i hi => by omega, hc, hf⟩
  case round =>
    obtain ⟨k, hk, rfl, rfl, hnx, hw⟩ := hrel
    by_cases hlt : k < n
    · rcases h with h | ⟨g, rfl, hB, hg, -, -⟩
      · omega
      have hN := hw g rfl (by omega)
      obtain ⟨x0, e0⟩ := hN.2.1 (k * 2) (by omega)
      obtain ⟨x1, e1⟩ := hN.2.1 (k * 2 + 1) (by omega)
      have f0 := hN.2.2 (k * 2)
      have f1 := hN.2.2 (k * 2 + 1)
      clear hw
      go_wp2
      go_roundw
      case rel =>
        refine ⟨k + 1, by omega, by go_num, by congr 1 <;> omega, hnx.sets (g := g) rfl (k * 2) [.int .i64 (1 + 2 * (k : Int)), .int .i64 (1 + 2 * (k : Int) + 1)], fun g1 hg1 _ => ?_⟩
        cases hg1
        exact hN.step hlt (us := [.int .i64 (1 + 2 * (k : Int)), .int .i64 (1 + 2 * (k : Int) + 1)]) rfl (fun j hj => by
          rcases (show j = 0 ∨ j = 1 by omega) with rfl | rfl
          · show Value.int .i64 _ = _; congr 1 <;> omega
          · show Value.int .i64 _ = _; congr 1; omega)
      case measure => simp [intOf]; omega
    · obtain rfl : k = n := by omega
      go_wp2
      go_ret
      refine ⟨rfl, ⟨a, c, rfl, ?_⟩, hnx⟩
      rcases h with h | ⟨g, ha, _⟩
      · exact .inl h
      · by_cases h0 : k = 0
        · exact .inl h0
        · exact .inr ⟨g, ha, (hw g ha (by omega)).1⟩

set_option maxHeartbeats 1000000 in
set_option maxRecDepth 100000 in
theorem heldHubS_any (w : World) (v : Value) (n : Nat) (h : Nums 2 w v n) (hl : n ≤ 1000000) : Calls Tryz.prog 30 #[v, .int .i64 1] w (NumsSeen (1 + 2 * n) w) := by
  obtain ⟨a, c, rfl, h⟩ := h
  go_enter Tryz.func30, Tryz.ntmps30
  go_wp2
  go_loop [1, 5] (fun q i => ∃ k : Nat, k ≤ n ∧ i = .int .i64 k ∧ q = .int .i64 ((1 + 2 * k : Nat) : Int)) (fun _ i => n - (intOf i).toNat)
  case atStart => exact ⟨0, by omega, rfl, rfl⟩
  case round =>
    obtain ⟨k, hk, rfl, rfl⟩ := hrel
    by_cases hlt : k < n
    · rcases h with h | ⟨g, rfl, hc⟩
      · omega
      have e0 := hc (k * 2) (by omega)
      have e1 := hc (k * 2 + 1) (by omega)
      rw [show ((1 + k * 2 : Nat) : Int) = 1 + 2 * (k : Int) by omega] at e0
      rw [show ((1 + (k * 2 + 1) : Nat) : Int) = 1 + 2 * (k : Int) + 1 by omega] at e1
      clear hc
      go_wp2
      go_round
      case rel => exact ⟨k + 1, by omega, by go_num, by congr 1 <;> omega⟩
      case measure => simp [intOf]; omega
    · obtain rfl : k = n := by omega
      go_wp2
      go_ret
      exact ⟨rfl, rfl⟩
set_option maxHeartbeats 1000000 in
set_option maxRecDepth 100000 in
theorem markHubS_none (w : World) (a : Option Addr) (c : Nat) : Calls Tryz.prog 29 #[.slice a 0 c, .int .i64 1] w (fun e w' => e = .returned (.int .i64 1) ∧ Below w.heap.size w w') := by
  go_enter Tryz.func29, Tryz.ntmps29
  go_wp2
  go_loopw [1, 5] (fun q i wr => i = .int .i64 0 ∧ q = .int .i64 1 ∧ Below w.heap.size w wr) (fun _ i _ => 0)
  case atStart => exact ⟨rfl, rfl, Below.refl _ _⟩
  case round =>
    obtain ⟨rfl, rfl, hb⟩ := hrel
    go_wp2
    go_ret
    exact ⟨rfl, hb⟩
theorem markHubS_own (w : World) (B : Nat) (v : Value) (n : Nat) (h : Own 2 w B v n) (hl : n ≤ 1000000) (hB : B ≤ w.heap.size) : Calls Tryz.prog 29 #[v, .int .i64 1] w (fun e w' => e = .returned (.int .i64 ((1 + 2 * n : Nat) : Int)) ∧ Nums 2 w' v n ∧ Below B w w') := by
  have h0 := h
  obtain ⟨a, c, rfl, q | ⟨g, rfl, hg, _⟩⟩ := h
  · subst q
    exact (markHubS_none w a c).mono fun e w' h => ⟨h.1, ⟨a, c, rfl, .inl rfl⟩, h.2.mono hB⟩
  · exact (markHubS_any w B _ n h0 hl).mono fun e w' h => ⟨h.1, h.2.1, h.2.2.below (fun b hb => by simp [Value.ownBlock] at hb; omega) hB⟩
end Go.Proofs.YtllhimeffkefiaaGreatDoor
/- The law FnExactFarFrom, walked: it answers true for every graph. Condition: the library's variables are as they were laid. -/
set_option linter.unusedVariables false
set_option linter.unusedSimpArgs false
namespace Go.Proofs.YtllhimeffkefiaaGreatDoor
open Go.RowKit Go.Sort

set_option maxHeartbeats 2000000 in
set_option maxRecDepth 100000 in
theorem law_farfrom (w : World) (hE : Env w) (S : Nat → Prop) (v : Value) (g : Gr) (h : RGr w S v g) (s : Int) : Calls Tryz.prog 6 #[v, .int .i64 s] w (SaysTrue w) := by
  obtain ⟨a1, c1, a2, c2, hv⟩ := h.shape
  obtain ⟨n1, hn1⟩ : ∃ n, g.nodes.length = n := ⟨_, rfl⟩
  obtain ⟨n2, hn2⟩ : ∃ n, g.edges.length = n := ⟨_, rfl⟩
  rw [hn1, hn2] at hv
  have HN1 := Lib.hid hn1
  have HN2 := Lib.hid hn2
  clear hn1 hn2
  subst hv
  have hb0 := (Below.refl _ w).alloc (Nat.le_refl _) (.cells #[.slice a1 n1 c1, .slice a2 n2 c2] 25)
  have x0 : (w.alloc (.cells #[.slice a1 n1 c1, .slice a2 n2 c2] 25)).cell? ⟨w.heap.size, 0, none⟩ = some (.slice a1 n1 c1) := by rw [World.cell?_alloc_mark]; rfl
  have x1 : (w.alloc (.cells #[.slice a1 n1 c1, .slice a2 n2 c2] 25)).cell? ⟨w.heap.size, 1, none⟩ = some (.slice a2 n2 c2) := by rw [World.cell?_alloc_mark]; rfl
  have r0 := h.below hb0
  go_enter Tryz.func6, Tryz.ntmps6
  go_upto_region 3 with (go_at_call 7; refine (szGraph_any _ S _ g 1048576 r0 (by decide) (by decide)).mono ?_; rintro e w1 ⟨rfl, hb1⟩)
  by_cases hsm : bGr g ≤ 1048576
  case neg =>
    rw [show lef 1048576 (bGr g) = -1 by unfold lef; rw [if_neg (by omega)]]
    go_wp2_with fail
    go_ret
    exact ⟨rfl, hb0.trans (hb1.mono hb0.size)⟩
  obtain ⟨L, hL, hL0⟩ : ∃ L, lef 1048576 (bGr g) = L ∧ 0 ≤ L := ⟨_, rfl, by unfold lef; rw [if_pos (by omega)]; omega⟩
  rw [hL]
  have f0 : decide (L < 0) = false := decide_eq_false (by omega)
  obtain ⟨l1, l2, lim1, lim2, hmk⟩ := small_of hsm
  clear hL hsm
  have A1 : Ag w w1 (.slice a1 n1 c1) (.slice a2 n2 c2) := (Ag.mk hb0 x0 x1).step hb1
  clear hb0 x0 x1 r0 hb1
  have q0 := A1.x0
  have q1 := A1.x1
  have r1 := h.below A1.below
  go_upto_region 6 with (first
    | (go_at_call 10; refine (toGraph_any _ S _ g r1 l1 l2 lim1 lim2).mono ?_; rintro e w2 ⟨gu, rfl, r2, hb2, hz2⟩)
    | (go_at_call 26; refine (sfarfrom_any _ _ _ g r2 s).mono ?_; rintro e w3 ⟨xs, hX, vS, rfl, p3, o3, hb3⟩))
  have A3 := (A1.step hb2).step hb3
  clear q0 q1 r1 r2 hb2 hz2 hb3 o3 A1
  have p3 := p3.mono EPt.mono (S' := fun _ => True) (fun _ _ => trivial)
  have q0 := A3.x0
  have q1 := A3.x1
  have r3 := h.below A3.below
  go_upto_region 7 with (go_at_call 10; refine (toGraph_any _ S _ g r3 l1 l2 lim1 lim2).mono ?_; rintro e w4 ⟨gv, rfl, r4, hb4, hz4⟩; obtain ⟨ga, gc, gb, gd, rfl⟩ := r4.shape)
  have hb5 := (Below.refl _ w4).alloc (Nat.le_refl _) (.cells #[.slice ga g.nodes.length gc, .slice gb g.edges.length gd] 36)
  have y0 : (w4.alloc (.cells #[.slice ga g.nodes.length gc, .slice gb g.edges.length gd] 36)).cell? ⟨w4.heap.size, 0, none⟩ = some (.slice ga g.nodes.length gc) := by rw [World.cell?_alloc_mark]; rfl
  have y1 : (w4.alloc (.cells #[.slice ga g.nodes.length gc, .slice gb g.edges.length gd] 36)).cell? ⟨w4.heap.size, 1, none⟩ = some (.slice gb g.edges.length gd) := by rw [World.cell?_alloc_mark]; rfl
  have r5 := r4.within.below hb5
  have h34 : w3.heap.size ≤ w4.heap.size := hb4.size
  have F5 : FreeS (fun b => w3.heap.size ≤ b ∧ b < w4.heap.size) (w4.alloc (.cells #[.slice ga g.nodes.length gc, .slice gb g.edges.length gd] 36)) := fun b hS => ⟨Nat.lt_trans hS.2 (by simp), fun o => (World.frozen?_of_block (a := ⟨b, o, none⟩) (hb5.block b hS.2)).trans (hz4 b o hS.1)⟩
  have A5 := (A3.step hb4).step hb5
  have hb35 := hb4.trans (hb5.mono hb4.size)
  have hS5a : ∀ b, (fun b => w3.heap.size ≤ b ∧ b < w4.heap.size) b → w3.heap.size ≤ b := fun b hb => hb.1
  have hS5b : ∀ b, (fun b => w3.heap.size ≤ b ∧ b < w4.heap.size) b → b < w4.heap.size := fun b hb => hb.2
  have h45 : w4.heap.size < (w4.alloc (.cells #[.slice ga g.nodes.length gc, .slice gb g.edges.length gd] 36)).heap.size := by simp
  generalize (fun b => w3.heap.size ≤ b ∧ b < w4.heap.size) = S5 at r5 F5 hS5a hS5b
  generalize w4.alloc (.cells #[.slice ga g.nodes.length gc, .slice gb g.edges.length gd] 36) = w5 at hb5 y0 y1 r5 F5 A5 hb35 h45 ⊢
  clear r4 hb4 hz4 hb5 q0 q1 r3
  obtain ⟨b4, hb4⟩ : ∃ b, w4.heap.size = b := ⟨_, rfl⟩
  rw [hb4] at y0 y1 h34 hS5b h45
  simp only [hb4]
  clear hb4
  have E5 := hE.below A5.below
  have h3A := A3.lt
  go_upto_region 8 with (go_at_call 27; refine (farfrom_any _ E5 S5 _ g r5 s).mono ?_; rintro e w6 ⟨ys, hY, vI, rfl, p6, o6, hb6⟩)
  have e := hY.same hX
  subst e
  clear hY
  have hlen := hX.len
  have A6 := A5.step hb6
  have y0 := cell_kept (fun hl => hb6.block _ hl) y0
  have y1 := cell_kept (fun hl => hb6.block _ hl) y1
  have r6 := r5.below hb6
  have F6 := F5.on (Wr.below hb6)
  have hb36 := hb35.trans (hb6.mono hb35.size)
  have p36 := p3.below EPt.kept hb36
  have h56 := hb6.size
  go_upto_region 10 with (go_at_call 28; refine (eqHubS_any _ _ _ _ _ ys p6 p36).mono ?_; rintro e w7 ⟨rfl, hb7⟩)
  clear r5 F5 A5 E5 hb35 hb6 p36
  have y0 := cell_kept (fun hl => hb7.block _ hl) y0
  have y1 := cell_kept (fun hl => hb7.block _ hl) y1
  have r7 := r6.below hb7
  have F7 := F6.on (Wr.below hb7)
  have A7 := A6.step hb7
  have p7 := p6.below EPt.kept hb7
  have o7 := o6.kept hb7.size (fun b _ hl => hb7.block b hl)
  have hb37 := hb36.trans (hb7.mono hb36.size)
  have h57 := Nat.le_trans h56 hb7.size
  clear r6 F6 A6 p6 o6 hb36 hb7 h56
  have q0 := A7.x0
  have q1 := A7.x1
  have A7d := A7.step (below_drew w7)
  have r7d := h.below A7d.below
  have rg7d := r7.below (below_drew w7)
  go_region_law (first
    | (go_simp; go_at_call 10; refine (toGraph_any w7.drew S _ g r7d l1 l2 lim1 lim2).mono ?_; rintro e w8a ⟨gw, rfl, r8, hb8, hz8⟩; have y2 := cell_kept (fun hl => hb8.block _ hl) y0; have y3 := cell_kept (fun hl => hb8.block _ hl) y1; have rg8 := rg7d.below hb8)
    | (go_simp; go_at_call 13; refine (eqGraph_any _ _ _ _ _ g rg8 r8).mono ?_; rintro e w8 ⟨rfl, hb8b⟩))
  all_goals
    have hb78 := (below_drew w7).trans ((hb8.mono (below_drew w7).size).trans (hb8b.mono (Nat.le_trans (below_drew w7).size hb8.size)))
    have y0 := cell_kept (fun hl => hb78.block _ hl) y0
    have y1 := cell_kept (fun hl => hb78.block _ hl) y1
    have r8' := r7.below hb78
    have F8 := F7.on (Wr.below hb78)
    have A8 := A7.step hb78
    have p8 := p7.below EPt.kept hb78
    have o8 := o7.kept hb78.size (fun b _ hl => hb78.block b hl)
    have hb38 := hb37.trans (hb78.mono hb37.size)
    have h58 := Nat.le_trans h57 hb78.size
    obtain ⟨mk, hmke⟩ : ∃ m, 1 + cGr g = m := ⟨_, rfl⟩
    have cm := markGraph_shape w8 S5 _ g r8' F8 hmk
    rw [hmke] at cm
    have f1 : decide ((mk : Int) < 0) = false := decide_eq_false (by omega)
    clear hb8 hb8b hz8 r8 rg8 y2 y3 hb78 r7 F7 A7 p7 o7 hb37 h57 q0 q1 A7d r7d rg7d r8' F8 hmke hmk
    go_upto_region 14 with (go_at_call 18; refine cm.mono ?_; rintro e w9 ⟨rfl, hW⟩)
    have hz5 : ∀ b, w5.heap.size ≤ b → b < w8.heap.size → w9.heap[b]? = w8.heap[b]? := fun b hb hl => hW.off b hl (fun q => by have := hS5b b q; omega)
    have hb89 : Below w3.heap.size w8 w9 := hW.low hb38.size hS5a
    have A9 := A8.low h3A hb89
    have p9 := p8.kept EPt.kept hz5
    have o9 := o8.kept hW.size hz5
    have hb39 := hb38.trans hb89
    have p39 := p3.below EPt.kept hb39
    have h59 := Nat.le_trans h58 hW.size
    clear y0 y1 A8 p8 o8 hb38 h58 cm hW hz5 hb89
    go_upto_region 16 with (go_at_call 28; refine (eqHubS_any _ _ _ _ _ ys p9 p39).mono ?_; rintro e w10 ⟨rfl, hb10⟩)
    have A10 := A9.step hb10
    have o10 := o9.kept hb10.size (fun b _ hl => hb10.block b hl)
    have hb310 := hb39.trans (hb10.mono hb39.size)
    have h510 := Nat.le_trans h59 hb10.size
    obtain ⟨mn, hmn⟩ : ∃ m, 1 + 2 * ys.length = m := ⟨_, rfl⟩
    have cm := markHubS_own w10 w5.heap.size vI ys.length o10 (by omega) h510
    have ch := fun u hu => heldHubS_any u vI ys.length hu (by omega)
    rw [hmn] at cm ch
    have f2 : decide ((mn : Int) < 0) = false := decide_eq_false (by omega)
    have f3 : ((mn : Int) != mn) = false := by simp
    clear A9 p9 o9 hb39 p39 h59 hb10 o10 hmn
    go_upto_region 18 with (go_at_call 29; refine cm.mono ?_; rintro e w11 ⟨rfl, N11, hb11⟩)
    have A11 := A10.low (by omega) hb11
    have hb311 := hb310.trans (hb11.mono (by omega))
    clear A10 hb310 cm hb11
    go_upto_region 24 with (go_at_call 30; refine (ch _ N11).mono ?_; rintro e w12 ⟨rfl, rfl⟩)
    have q0 := A11.x0
    have q1 := A11.x1
    have r11 := h.below A11.below
    go_upto_region 25 with (first
      | (go_at_call 10; refine (toGraph_any _ S _ g r11 l1 l2 lim1 lim2).mono ?_; rintro e w13 ⟨gx, rfl, r13, hb13, hz13⟩; have A13 := A11.step hb13; have E13 := hE.below A13.below)
      | (go_at_call 27; refine (farfrom_any _ E13 _ _ g r13 s).mono ?_; rintro e w14 ⟨zs, hZ, vJ, rfl, p14, o14, hb14⟩))
    have e := hZ.same hX
    subst e
    have A14 := A13.step hb14
    have hb114 := hb13.trans (hb14.mono hb13.size)
    have hb314 := hb311.trans (hb114.mono hb311.size)
    have p314 := p3.below EPt.kept hb314
    have N14 := N11.kept (fun b hl => hb114.block b hl)
    clear q0 q1 r11 A13 E13 r13 hb13 hz13 hb14 o14 A11 N11 hb311
    go_wp2_with (first
      | (go_at_call 28; refine (eqHubS_any _ _ _ _ _ _ p14 p314).mono ?_; rintro e w15 ⟨rfl, hb15⟩; have A15 := A14.step hb15; have N15 := N14.kept (fun b hl => hb15.block b hl))
      | (go_at_call 30; refine (ch _ N15).mono ?_; rintro e w16 ⟨rfl, rfl⟩))
    go_ret
    exact ⟨rfl, A15.below⟩
end Go.Proofs.YtllhimeffkefiaaGreatDoor
