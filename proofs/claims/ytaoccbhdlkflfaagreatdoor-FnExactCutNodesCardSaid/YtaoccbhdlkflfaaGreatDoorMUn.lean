/- Texts of one proof, joined in their order: each bears its own word of what it holds and on what condition. -/
import Derived.Test.YtaoccbhdlkflfaaGreatDoorMUj
import Derived.Test.YtaoccbhdlkflfaaGreatDoorMR
set_option linter.unusedVariables false
set_option linter.unusedSimpArgs false
/- The specification's CutNodes, whole. No condition on the graph. -/
set_option linter.unusedVariables false
set_option linter.unusedSimpArgs false
namespace Go.Proofs.YtaoccbhdlkflfaaGreatDoor
open Go.RowKit Go.Sort

def CutR (g : Gr) (w : World) (e : Ending) (w' : World) : Prop := ∃ xs, CutX g xs ∧ IntsR xs w e w'
/-- behind the world W5, at which a loop began: of what was there nothing has turned but block ob; out is the row that grows -/
structure So (W5 wr : World) (ob : Nat) (out : Value) : Prop where
  gr : W5.grownBy wr (some ob)
  own : ∀ q, out.ownBlock = some q → q = ob ∨ W5.heap.size ≤ q
theorem So.step {W5 wr w' : World} {ob : Nat} {out : Value} (h : So W5 wr ob out) (hb : Below wr.heap.size wr w') : So W5 w' ob out :=
  ⟨⟨hb.os.trans h.gr.os, hb.tape.trans h.gr.tape, hb.output.trans h.gr.output, Nat.le_trans h.gr.size hb.size, fun b hl hne => (hb.block b (Nat.lt_of_lt_of_le hl h.gr.size)).trans (h.gr.block b hl hne)⟩, h.own⟩
theorem So.app {W5 wr w' : World} {ob : Nat} {out : Value} (h : So W5 wr ob out) (hg : wr.grownBy w' out.ownBlock) {g : Nat} (hgg : out.ownBlock = some g ∨ g = wr.heap.size) (m cap : Nat) : So W5 w' ob (.slice (some ⟨g, 0, none⟩) m cap) := by
  refine ⟨⟨hg.os.trans h.gr.os, hg.tape.trans h.gr.tape, hg.output.trans h.gr.output, Nat.le_trans h.gr.size hg.size, fun b hl hne => (hg.block b (Nat.lt_of_lt_of_le hl h.gr.size) (fun e => ?_)).trans (h.gr.block b hl hne)⟩, fun q hq => ?_⟩
  · rcases h.own b e.symm with q | q
    · exact hne (by rw [q])
    · omega
  · have hq : g = q := Option.some.inj hq
    subst hq
    rcases hgg with e | e
    · exact h.own _ e
    · subst e; exact .inr h.gr.size
theorem So.cell {W5 wr : World} {ob : Nat} {out : Value} (h : So W5 wr ob out) {b o : Nat} {v : Value} (hb : b ≠ ob) (hc : W5.cell? ⟨b, o, none⟩ = some v) : wr.cell? ⟨b, o, none⟩ = some v :=
  cell_kept (fun hl => h.gr.block b hl (fun e => hb (Option.some.inj e))) hc
theorem gone_cells {CG : Array Value} {n k : Nat} (hs : CG.size = n) (h : ∀ j, j < n → CG[j]? = some (.bool false)) (hk : k < n) : ∀ j, j < n → (CG.setIfInBounds k (.bool true))[j]? = some (.bool (gone1 k j)) := fun j hj => by
  unfold gone1
  by_cases e : j = k
  · subst e
    rw [if_pos rfl, Array.getElem?_setIfInBounds_self_of_lt (by omega)]
  · rw [if_neg e, Array.getElem?_setIfInBounds_ne (fun q => e q.symm)]
    exact h j hj
theorem So.low {W5 wr w : World} {ob : Nat} {out : Value} (h : So W5 wr ob out) (hb : Below w.heap.size w W5) (ho : w.heap.size ≤ ob) : Below w.heap.size w wr :=
  ⟨h.gr.os.trans hb.os, h.gr.tape.trans hb.tape, h.gr.output.trans hb.output, Nat.le_trans hb.size h.gr.size, fun b hl => (h.gr.block b (Nat.lt_of_lt_of_le hl hb.size) (fun e => by have := Option.some.inj e; omega)).trans (hb.block b hl)⟩
set_option maxHeartbeats 4000000 in
set_option maxRecDepth 100000 in
theorem scut_any (w : World) (S : Nat → Prop) (v : Value) (g : Gr) (h : RGr w S v g) : Calls Tryz.prog 21 #[v] w (CutR g w) := by
  have h0 := h
  obtain ⟨v1, v2, rfl, h1, h2⟩ := h
  obtain ⟨a1, c1, rfl⟩ := h1.shape
  obtain ⟨a2, c2, rfl⟩ := h2.shape
  obtain ⟨n1, hn1⟩ : ∃ n, g.nodes.length = n := ⟨_, rfl⟩
  obtain ⟨n2, hn2⟩ : ∃ n, g.edges.length = n := ⟨_, rfl⟩
  have HN1 := Lib.hid hn1
  have HN2 := Lib.hid hn2
  rw [hn1, hn2] at h0
  rw [hn1, hn2]
  clear h1 h2 hn1 hn2
  obtain ⟨W0, hW0⟩ : ∃ W0, W0 = (w.alloc (.cells #[.slice a1 n1 c1, .slice a2 n2 c2] 32)).alloc (.cells #[] 2) := ⟨_, rfl⟩
  have hba : Below w.heap.size w W0 := by rw [hW0]; exact ((Below.refl _ w).alloc (Nat.le_refl _) _).alloc (by simp) _
  have r1 := h0.below hba
  have x0 : W0.cell? ⟨w.heap.size, 0, none⟩ = some (.slice a1 n1 c1) := by rw [hW0]; exact cell_alloc (by rw [World.cell?_alloc_mark]; rfl) _
  have x1 : W0.cell? ⟨w.heap.size, 1, none⟩ = some (.slice a2 n2 c2) := by rw [hW0]; exact cell_alloc (by rw [World.cell?_alloc_mark]; rfl) _
  have x2 : W0.heap[w.heap.size + 1]? = some (.cells #[] 2 (0, 0)) := by rw [hW0]; have := heap_alloc_new (w.alloc (.cells #[.slice a1 n1 c1, .slice a2 n2 c2] 32)) (.cells #[] 2); simpa using this
  have HW0 := Lib.hid hW0
  clear hW0
  cases hg : gOk g with
  | false =>
    go_enter Tryz.func21, Tryz.ntmps21
    go_upto_region 2 with fail
    rw [← HW0.out]
    go_wp2_with (go_at_call 27; refine (fault_bad _ _ _ _ hg r1).mono ?_; rintro e w1 ⟨rfl, hb1⟩)
    go_ret
    exact ⟨[], ⟨(fun _ => rfl), (fun h => by rw [hg] at h; cases h)⟩, IntsR.nil _ _ _ _ (hba.trans (hb1.mono hba.size))⟩
  | true =>
    have hw := gw_of hg
    have hlen1 := hw.n
    rw [HN1.out] at hlen1
    have hlen1' : (n1 : Int) ≤ 200 := by omega
    obtain ⟨CG, hCG, hCGb, hmkG⟩ := make_one (T := 50) (E := 4) (z := .bool false) (by' := 1) Tryz.underlying50 (by kernel_rfl) rfl (by decide) n1 (by omega)
    go_enter Tryz.func21, Tryz.ntmps21
    go_upto_region 2 with fail
    rw [← HW0.out]
    go_upto_region 4 with (go_at_call 27; refine (fault_good _ _ _ _ hg r1).mono ?_; rintro e w1 ⟨rfl, hb1⟩; have r2 := r1.below hb1; have y0 := cell_kept (fun hl => hb1.block _ hl) x0; have y1 := cell_kept (fun hl => hb1.block _ hl) x1)
    have y2 := (hb1.block _ (Array.getElem?_eq_some_iff.1 x2).1).trans x2
    have hob : w.heap.size + 1 < w1.heap.size := (Array.getElem?_eq_some_iff.1 y2).1
    go_upto_region 5 with (go_at_call 28; refine (linked_gw _ S _ g r2 hw).mono ?_; rintro e w4 ⟨vL, gs, rfl, hmx, hb4⟩; rw [HN1.out] at hmx; obtain ⟨l1, l3, rfl⟩ := hmx.shapeN)
    have y04 := cell_alloc (cell_kept (fun hl => hb4.block _ hl) y0) (.cells #[.slice l1 n1 l3] 48)
    go_upto_region 6 with fail
    clear y04
    have hbA : Below w1.heap.size w1 ((w4.alloc (.cells #[.slice l1 n1 l3] 48)).alloc (.cells CG 4)) := (hb4.alloc hb4.size _).alloc (Nat.le_trans hb4.size (by simp)) _
    have hbB : Below w4.heap.size w4 ((w4.alloc (.cells #[.slice l1 n1 l3] 48)).alloc (.cells CG 4)) := ((Below.refl _ w4).alloc (Nat.le_refl _) _).alloc (by simp) _
    have zl : ((w4.alloc (.cells #[.slice l1 n1 l3] 48)).alloc (.cells CG 4)).cell? ⟨w4.heap.size, 0, none⟩ = some (.slice l1 n1 l3) := cell_alloc (by rw [World.cell?_alloc_mark]; rfl) _
    have hgN : ∀ j, j < n1 → ((w4.alloc (.cells #[.slice l1 n1 l3] 48)).alloc (.cells CG 4)).cell? ⟨w4.heap.size + 1, j, none⟩ = some (.bool false) := fun j hj => by
      have e : (w4.alloc (.cells #[.slice l1 n1 l3] 48)).heap.size = w4.heap.size + 1 := by simp
      rw [← e, World.cell?_alloc_mark]; exact hCGb j hj
    generalize (w4.alloc (.cells #[.slice l1 n1 l3] 48)).alloc (.cells CG 4) = W3 at hbA hbB zl hgN ⊢
    have hmx3 := hmx.below hbB
    have z0 := cell_kept (fun hl => hbA.block _ hl) y0
    have z1 := cell_kept (fun hl => hbA.block _ hl) y1
    have z2 := (hbA.block _ hob).trans y2
    obtain ⟨bl, hbl⟩ : ∃ b, w4.heap.size = b := ⟨_, rfl⟩
    obtain ⟨gN, hgNe⟩ : ∃ b, w4.heap.size + 1 = b := ⟨_, rfl⟩
    have hobl : w.heap.size + 1 < bl := by have := hb4.size; omega
    have hobN : w.heap.size + 1 < gN := by omega
    rw [hgNe] at hgN
    simp only [hgNe]
    rw [hbl] at zl
    simp only [hbl]
    have hbW : Below w.heap.size w W3 := (hba.trans (hb1.mono hba.size)).trans (hbA.mono (Nat.le_trans hba.size hb1.size))
    clear hbA hbB y0 y1 y2 x0 x1 x2 hmx hb4 hb1 hba hbl hgNe HW0 r1 r2
    go_upto_region 7 with (go_at_call 42; refine (scount_any _ _ n1 hlen1 _ _ _ hmx3 gN n1 (fun _ => false) hgN).mono ?_; rintro e w5 ⟨n, rfl, hcard, hnb, hb5⟩)
    have hcomp := comps_whole hw (by rw [HN1.out]; exact hcard)
    have hobs := (Array.getElem?_eq_some_iff.1 z2).1
    have hsb : So w5 w5 (w.heap.size + 1) (.slice (some ⟨w.heap.size + 1, 0, none⟩) 0 0) := ⟨⟨rfl, rfl, rfl, Nat.le_refl _, fun _ _ _ => rfl⟩, fun q hq => .inl (Option.some.inj hq).symm⟩
    have hown0 : w5.ownsRow (w.heap.size + 1) 2 1 (.slice (some ⟨w.heap.size + 1, 0, none⟩) 0 0) 0 [] := ⟨rfl, .inr ⟨w.heap.size + 1, 0, #[], rfl, Nat.le_refl _, (hb5.block _ hobs).trans z2, by simp, by unfold maxLen; simp, rfl, rfl⟩⟩
    have HCOMP := Lib.hid hcomp
    have hmx5 := hmx3.below hb5
    have y0 := cell_kept (fun hl => hb5.block _ hl) z0
    have zl := cell_kept (fun hl => hb5.block _ hl) zl
    have hgN := fun j hj => cell_kept (fun hl => hb5.block _ hl) (hgN j hj)
    have hbW := hbW.trans (hb5.mono hbW.size)
    clear hcard hcomp hb5 z0 z1 z2 hmx3 hobs
    go_wp2_with fail
    go_loopw [3, 7, 8] (fun out i _ wr => ∃ (k : Nat) (cs : Nat → Nat), k ≤ n1 ∧ i = .int .i64 k ∧ So w5 wr (w.heap.size + 1) out ∧ (∀ j (hj : j < k) (hk : j < g.nodes.length), nbr g.edges g.nodes[j].id = true → Comps (idsOf (cutNs g.nodes g.nodes[j].id)) (cutEs g.edges g.nodes[j].id) (cs j)) ∧ wr.ownsRow (w.heap.size + 1) 2 1 out (pickN (fun k => (g.nodes.getD k n0).id) (fun k => nbr g.edges (g.nodes.getD k n0).id && decide (n < cs k)) k).length ((pickN (fun k => (g.nodes.getD k n0).id) (fun k => nbr g.edges (g.nodes.getD k n0).id && decide (n < cs k)) k).map (Value.int .i64))) (fun _ i _ wr => n1 - (intOf i).toNat)
    case atStart => exact ⟨0, fun _ => 0, by omega, rfl, hsb, fun j hj => by omega, hown0⟩
    case round =>
      clear hsb hown0
      obtain ⟨k, cs, hk, rfl, hsb, hcs, hown⟩ := hrel
      have q0 := hsb.cell (by omega) y0
      have ql := hsb.cell (by omega) zl
      have hbr := hsb.low hbW (by omega)
      by_cases hlt : k < n1
      · have f0 : decide ((k : Int) < n1) = true := decide_eq_true (by omega)
        have f0' : decide (k < n1) = true := decide_eq_true hlt
        have hlt2 : (k : Int) < n1 := by omega
        have hltN : k < g.nodes.length := by rw [HN1.out]; exact hlt
        have r5 := h0.below hbr
        obtain ⟨u1, u2, hu, hN, hEd⟩ := r5
        injection hu with hu
        have hu := Array.mk.inj hu
        simp only [List.cons.injEq, and_true] at hu
        obtain ⟨rfl, rfl⟩ := hu
        clear hEd
        obtain ⟨b, o, l5, d5, l2, d2, rfl, hS0, hc, hcl, hcf, _, _⟩ := RNd.at hN hltN
        obtain ⟨xi, hxi⟩ : ∃ xi, g.nodes[k].id = xi := ⟨_, rfl⟩
        rw [hxi] at hc
        have HXI := Lib.hid hxi
        clear hxi hcl hcf
        go_upto_region 11 with fail
        have hg0 : ∀ j, j < n1 → (wr.alloc (.cells CG 4)).cell? ⟨wr.heap.size, j, none⟩ = some (.bool false) := fun j hj => by rw [World.cell?_alloc_mark]; exact hCGb j hj
        have z1 := hg0 k hlt
        have z2 : (wr.alloc (.cells CG 4)).frozen? ⟨wr.heap.size, k, none⟩ = false := by rw [World.frozen?_alloc_mark]; simp
        go_upto_region 12 with fail
        have hgn : ∀ j, j < n1 → (wr.alloc (.cells (CG.setIfInBounds k (.bool true)) 4)).cell? ⟨wr.heap.size, j, none⟩ = some (.bool (gone1 k j)) := fun j hj => by rw [World.cell?_alloc_mark]; exact gone_cells hCG hCGb hlt j hj
        have hb6 := (Below.refl _ wr).alloc (Nat.le_refl _) (.cells (CG.setIfInBounds k (.bool true)) 4)
        generalize wr.alloc (.cells (CG.setIfInBounds k (.bool true)) 4) = W6 at hgn hb6 ⊢
        obtain ⟨bG, hbG⟩ : ∃ b, wr.heap.size = b := ⟨_, rfl⟩
        rw [hbG] at hgn
        simp only [hbG]
        have hmxr := hmx5.kept hsb.gr.size (fun b hb hl => hsb.gr.block b hl (fun e => by have := Option.some.inj e; omega))
        have hmx6 := hmxr.below hb6
        have ql6 := cell_kept (fun hl => hb6.block _ hl) ql
        have hgN6 : ∀ j, j < n1 → W6.cell? ⟨gN, j, none⟩ = some (.bool false) := fun j hj => cell_kept (fun hl => hb6.block _ hl) (hsb.cell (by omega) (hgN j hj))
        have hnl := nbr_lnks hw hltN
        rw [HN1.out, HXI.out] at hnl
        have hPL := pickN_len (fun k => (g.nodes.getD k n0).id) (fun k => nbr g.edges (g.nodes.getD k n0).id && decide (n < cs k)) k
        clear hg0 z1 z2 hbG hmxr ql q0 hbr
        cases hnn : nbr g.edges xi with
        | false =>
          rw [hnn] at hnl
          go_upto_region 13 with (go_at_call 46; refine (sdegree_any _ _ n1 hlen1 _ _ _ hmx6 k hlt gN n1 hgN6).mono ?_; rintro e w7 ⟨d, rfl, hd, hiff, hb7⟩; have hd0 : decide ((0 : Int) < (d : Int)) = false := decide_eq_false (fun q => by have := hnl.2 (hiff.1 (by omega)); cases this); have hd1 : decide (0 < d) = false := decide_eq_false (fun q => by have := hnl.2 (hiff.1 q); cases this); clear hiff hnl)
          have hW8 : Below wr.heap.size wr w7 := hb6.trans (hb7.mono hb6.size)
          have hown8 := own_kept hown (fun b hb hl => hW8.block b hl)
          have hsb8 := hsb.step hW8
          have hpm := pick_same (id := fun k => (g.nodes.getD k n0).id) (dec := fun k => nbr g.edges (g.nodes.getD k n0).id && decide (n < cs k)) (dec' := fun k => nbr g.edges (g.nodes.getD k n0).id && decide (n < cs k)) (k := k) (fun _ _ => rfl) (by rw [getD_eq hltN, HXI.out, hnn]; rfl)
          go_round
          case rel =>
            refine ⟨k + 1, cs, by omega, by go_num, hsb8, fun j hj hj2 hnj => ?_, by rw [hpm]; exact hown8⟩
            by_cases e : j = k
            · subst e; rw [HXI.out, hnn] at hnj; cases hnj
            · exact hcs j (by omega) hj2 hnj
          case measure => simp [intOf]; omega
        | true =>
          rw [hnn] at hnl
          go_upto_region 13 with (first
            | (go_at_call 46; refine (sdegree_any _ _ n1 hlen1 _ _ _ hmx6 k hlt gN n1 hgN6).mono ?_; rintro e w7 ⟨d, rfl, hd, hiff, hb7⟩; have hd0 : decide ((0 : Int) < (d : Int)) = true := decide_eq_true (by have := hiff.2 (hnl.1 rfl); omega); have hd1 : decide (0 < d) = true := decide_eq_true (hiff.2 (hnl.1 rfl)); clear hiff hnl; have ql7 := cell_kept (fun hl => hb7.block _ hl) ql6; have hgn7 := (fun j hj => cell_kept (fun hl => hb7.block _ hl) (hgn j hj)))
            | (go_at_call 42; refine (scount_any _ _ n1 hlen1 _ _ _ (hmx6.below hb7) bG n1 (gone1 k) hgn7).mono ?_; rintro e w8 ⟨nk, rfl, hcard2, hnb2, hb8⟩))
          all_goals
            have hcomp2 := comps_gone1 hw hltN (c := nk) (by rw [HN1.out]; exact hcard2)
            have hb78 := hb7.trans (hb8.mono hb7.size)
            have hW8 : Below wr.heap.size wr w8 := hb6.trans (hb78.mono hb6.size)
            have hown8 := own_kept hown (fun b hb hl => hW8.block b hl)
            have hsb8 := hsb.step hW8
            have hc8 := cell_kept (fun hl => hW8.block _ hl) hc
            have hcs8 : ∀ j (hj : j < k + 1) (hk : j < g.nodes.length), nbr g.edges g.nodes[j].id = true → Comps (idsOf (cutNs g.nodes g.nodes[j].id)) (cutEs g.edges g.nodes[j].id) (set1 cs k nk j) := fun j hj hj2 hnj => by
              by_cases e : j = k
              · subst e; rw [set1_same]; exact hcomp2
              · rw [set1_other (by omega)]; exact hcs j (by omega) hj2 hnj
            have hdec : ∀ j, j < k → (nbr g.edges (g.nodes.getD j n0).id && decide (n < set1 cs k nk j)) = (nbr g.edges (g.nodes.getD j n0).id && decide (n < cs j)) := fun j hj => by rw [set1_other hj]
            clear hb7 hb8 hcard2 hown hcs hb78 hsb hcomp2 hW8 hb6 hmx6 hgn hgN6 ql6 ql7 hgn7 hc hd hd0 hd1
          · rename_i hlt3
            have hpm := pick_more (id := fun k => (g.nodes.getD k n0).id) (dec := fun k => nbr g.edges (g.nodes.getD k n0).id && decide (n < cs k)) (dec' := fun j => nbr g.edges (g.nodes.getD j n0).id && decide (n < set1 cs k nk j)) hdec (by rw [set1_same, getD_eq hltN, HXI.out, hnn]; exact decide_eq_true hlt3)
            simp only [getD_eq hltN, HXI.out] at hpm
            generalize pickN (fun k => (g.nodes.getD k n0).id) (fun k => nbr g.edges (g.nodes.getD k n0).id && decide (n < cs k)) k = P at hown8 hPL hpm
            obtain ⟨i0, hi0, hz0, hz1, hz2⟩ := info_parts (show (Tryz.prog.info? 2).map (fun i => (i.zero, i.size, i.bytes)) = some (some (.int .i64 0), 1, 8) by kernel_rfl)
            have hP2 : P.length ≤ 400 := by omega
            have q0 := hsb8.cell (by omega) y0
            have hsz8 : w.heap.size + 1 ≤ w8.heap.size := lt_of_cell q0
            clear hlt3 hnn
            go_wp2_with (at_builtin; refine wpList_append_lies _ rfl (.tmp 49) (.tmp 56) 39 rfl (w.heap.size + 1) 2 i0 (.int .i64 0) 1 8 Tryz.underlying39 hi0 hz0 hz1 hz2 rfl (by decide) _ P.length (P.map (Value.int .i64)) rfl (hown8.alloc _) ⟨_, 0, none⟩ 1 1 [.int .i64 xi] rfl rfl (new_cells (by simp) _ _) (by intro u hu; simp at hu; subst hu; rfl) (by decide) (by unfold maxLen; omega) (by omega) (by simp; omega) _ rfl ?_; intro gg cap w9 hown9 hgrow9 hat9 hlt9; have hgrow9 : World.grownBy _ w9 u3.ownBlock := hgrow9)
            go_round
            case rel =>
              refine ⟨k + 1, set1 cs k nk, by omega, by go_num, ?_, hcs8, ?_⟩
              · exact (hsb8.step ((Below.refl _ w8).alloc (Nat.le_refl _) _)).app hgrow9 hat9 _ _
              · rw [hpm, List.length_append, List.map_append]; exact hown9
            case measure => simp [intOf]; omega
          · rename_i hlt3
            have hpm := pick_same (id := fun k => (g.nodes.getD k n0).id) (dec := fun k => nbr g.edges (g.nodes.getD k n0).id && decide (n < cs k)) (dec' := fun j => nbr g.edges (g.nodes.getD j n0).id && decide (n < set1 cs k nk j)) hdec (by rw [set1_same, decide_eq_false hlt3, Bool.and_false])
            go_round
            case rel => exact ⟨k + 1, set1 cs k nk, by omega, by go_num, hsb8, hcs8, by rw [hpm]; exact hown8⟩
            case measure => simp [intOf]; omega
      · have hk3 : k = n1 := by omega
        subst hk3
        have f0 : decide ((k : Int) < k) = false := decide_eq_false (by omega)
        go_wp2_with fail
        go_ret
        obtain ⟨t1, t2⟩ := own_rint hown (by have := pickN_len (fun k => (g.nodes.getD k n0).id) (fun k => nbr g.edges (g.nodes.getD k n0).id && decide (n < cs k)) k; omega)
        refine ⟨_, ⟨(fun h => by rw [hg] at h; cases h), fun _ => ⟨n, cs, HCOMP.out, fun j hj => hcs j (by rw [← HN1.out]; exact hj) hj, rfl⟩⟩, _, rfl, ?_, ?_, hbr⟩
        · rw [HN1.out]; exact t1.mono EInt.mono (fun b hb => by omega)
        · rw [HN1.out]; exact Own.low t2 (by omega)
end Go.Proofs.YtaoccbhdlkflfaaGreatDoor
