/- Texts of one proof, joined in their order: each bears its own word of what it holds and on what condition. -/
import Derived.Test.YtbaljljlahhkfaaGreatDoorMYi
set_option linter.unusedVariables false
set_option linter.unusedSimpArgs false
/- Cores: impl's closure, at each node. Condition: the map lies in its box. -/
set_option linter.unusedVariables false
set_option linter.unusedSimpArgs false
namespace Go.Proofs.YtbaljljlahhkfaaGreatDoor
open Go.RowKit Go.Sort

set_option maxHeartbeats 1000000 in
set_option maxRecDepth 100000 in
theorem pernode_core (w : World) (S : Nat → Prop) (v : Value) (g : Gr) (h : RGr w S v g) (hl : g.nodes.length ≤ 200) (cb : Nat) (f : Int → Int) (hclo : ∀ u, Below w.heap.size w u → ∀ x ∈ g.nodes, Calls Tryz.prog 50 #[.int .i64 x.id, .pointer (some ⟨cb, 0, none⟩)] u (fun e w' => e = .returned (.int .i64 (f x.id)) ∧ u = w')) :
    Calls Tryz.prog 40 #[v, .func (.func 50) #[] #[.pointer (some ⟨cb, 0, none⟩)]] w (PtsR (ptsOf g.nodes f) w) := by
  obtain ⟨v1, v2, rfl, h1, h2⟩ := h
  obtain ⟨ns, es⟩ := g
  obtain ⟨a1, c1, rfl⟩ := h1.shape
  obtain ⟨a2, c2, rfl⟩ := h2.shape
  simp only at h1 h2 hl hclo ⊢
  have hl1' : (ns.length : Int) ≤ 200 := by omega
  have hba := (Below.refl _ w).alloc (Nat.le_refl _) (.cells #[.slice a1 ns.length c1, .slice a2 es.length c2] 32)
  have hpl : (ptsOf ns f).length = ns.length := by unfold ptsOf; rw [List.length_map]
  obtain ⟨i0, hi0, hz0, hz1, hz2⟩ := info_parts (show (Tryz.prog.info? 72).map (fun i => (i.zero, i.size, i.bytes)) = some (some (.agg #[.int .i64 0, .int .i64 0]), 2, 16) by kernel_rfl)
  go_enter Tryz.func40, Tryz.ntmps40
  go_wp2
  go_loopw [5, 11] (fun out i wr => ∃ k : Nat, k ≤ ns.length ∧ i = .int .i64 k ∧ Below w.heap.size w wr ∧ wr.ownsRow w.heap.size 72 2 out k (((ptsOf ns f).take k).flatMap cP)) (fun _ i wr => ns.length - (intOf i).toNat)
  case atStart => exact ⟨0, by omega, rfl, hba, World.ownsRow_nil _ _ _ _⟩
  case round =>
    obtain ⟨k, hk, rfl, hb, hown⟩ := hrel
    by_cases hlt : k < ns.length
    · have f0 : decide ((k : Int) < ns.length) = true := decide_eq_true (by omega)
      have f0' : decide (k < ns.length) = true := decide_eq_true hlt
      have hlt2 : (k : Int) < ns.length := by omega
      have hr := h1.below ENd.kept hb
      obtain ⟨b, o, l1, d1, l2, d2, rfl, hS0, hc, hcl, hcf, _, _⟩ := RNd.at hr hlt
      have HT : Hid ((ptsOf ns f).take (k + 1) = (ptsOf ns f).take k ++ [⟨ns[k].id, f ns[k].id⟩]) := Lib.hid (by rw [take_snoc' _ k (by omega)]; simp [ptsOf])
      have hix := fun u hu => hclo u hu _ (List.getElem_mem hlt)
      obtain ⟨xi, hxi⟩ : ∃ xi, ns[k].id = xi := ⟨_, rfl⟩
      obtain ⟨xl, hxl⟩ : ∃ xl, ns[k].labels.length = xl := ⟨_, rfl⟩
      obtain ⟨xf, hxf⟩ : ∃ xf, ns[k].fields.length = xf := ⟨_, rfl⟩
      rw [hxi] at hc HT
      simp only [hxi] at hix
      rw [hxl] at hcl
      rw [hxf] at hcf
      clear hxi hxl hxf
      obtain ⟨y, hy⟩ : ∃ y, f xi = y := ⟨_, rfl⟩
      have hb3 := (Below.refl _ wr).alloc (Nat.le_refl _) (.cells #[.int .i64 xi, .slice l1 xl d1, .slice l2 xf d2] 60)
      have hbW := hb.trans (hb3.mono hb.size)
      have x0 : (wr.alloc (.cells #[.int .i64 xi, .slice l1 xl d1, .slice l2 xf d2] 60)).cell? ⟨wr.heap.size, 0, none⟩ = some (.int .i64 xi) := by rw [World.cell?_alloc_mark]; rfl
      have hoW := hown.alloc (.cells #[.int .i64 xi, .slice l1 xl d1, .slice l2 xf d2] 60)
      have hbx : wr.heap.size < (wr.alloc (.cells #[.int .i64 xi, .slice l1 xl d1, .slice l2 xf d2] 60)).heap.size := by simp
      obtain ⟨bx, hbxe⟩ : ∃ bx, wr.heap.size = bx := ⟨_, rfl⟩
      have hlw : w.heap.size ≤ bx := by rw [← hbxe]; exact hb.size
      have hnb : u5.ownBlock ≠ some bx := fun e => by have := (hown.lt bx e).2; omega
      go_upto_region 5 with fail
      rw [hbxe] at x0 hbx
      generalize wr.alloc (.cells #[.int .i64 xi, .slice l1 xl d1, .slice l2 xf d2] 60) = W at hbW x0 hoW hbx ⊢
      have hcl : Calls Tryz.prog 50 #[.int .i64 xi, .pointer (some ⟨cb, 0, none⟩)] W.drew (fun e w' => e = .returned (.int .i64 y) ∧ W.drew = w') := by
        have hbd : Below w.heap.size w W.drew := hbW.trans ((below_drew W).mono hbW.size)
        rw [← hy]
        exact hix W.drew hbd
      have hzW : w.heap.size ≤ W.heap.size := hbW.size
      have hoD : W.drew.ownsRow w.heap.size 72 2 u5 k (((ptsOf ns f).take k).flatMap cP) := hoW
      go_region_held_law (fun w' : World => w'.cell? ⟨bx, 0, none⟩ = some (.int .i64 xi)) (first | go_keep | exact d0) (first
        | (go_at_call 50; refine hcl.mono ?_; rintro e w' ⟨rfl, rfl⟩)
        | (refine step_append_lies _ (by rfl) (.tmp 15) (.tmp 23) 27 (by rfl) w.heap.size 72 i0 (.agg #[.int .i64 0, .int .i64 0]) 2 16 Tryz.underlying27 hi0 hz0 hz1 hz2 rfl (by decide) u5 k (((ptsOf ns f).take k).flatMap cP) (by rfl) (hoD.alloc _) ⟨_, 0, none⟩ 1 1 [.int .i64 xi, .int .i64 y] (by rfl) rfl (World.news_of_block (new_block (by simp) _ _)) (by intro u hu; simp at hu; rcases hu with rfl | rfl <;> rfl) (by decide) (by unfold maxLen; omega) (by omega) (by simp <;> omega) _ rfl ?_; intro g cap w6 hown6 hgrow6 hat6 hlt6; have hgrow6 : World.grownBy _ w6 u5.ownBlock := hgrow6; have d0 : w6.cell? ⟨bx, 0, none⟩ = some (.int .i64 xi) := ((World.cell?_of_block (a := ⟨bx, 0, none⟩) (hgrow6.block bx (Nat.lt_trans hbx (by simp)) (fun e => hnb e.symm))).trans (cell_kept (fun hl => ((Below.refl _ W.drew).alloc (Nat.le_refl _) _).block bx hl) x0))))
      have hbA : Below w.heap.size w (W.alloc (.cells #[.int .i64 xi, .int .i64 y] 72)).drew := (hbW.alloc hbW.size _).trans ((below_drew _).mono (Nat.le_trans hbW.size (by simp)))
      have hb6 : Below w.heap.size w w6 := ⟨hgrow6.os.trans hbA.os, hgrow6.tape.trans hbA.tape, hgrow6.output.trans hbA.output, Nat.le_trans hbA.size hgrow6.size, fun q hq => (hgrow6.block q (Nat.lt_of_lt_of_le hq hbA.size) (fun e => by have := (hoW.lt q e.symm).1; omega)).trans (hbA.block q hq)⟩
      have hown7 : w6.ownsRow w.heap.size 72 2 (.slice (some ⟨g, 0, none⟩) (k + 1) cap) (k + 1) (((ptsOf ns f).take (k + 1)).flatMap cP) := by
        rw [HT.out, List.flatMap_append, hy]
        exact hown6
      go_wp2_with fail
      go_round
      case rel => exact ⟨k + 1, by omega, by go_num, hb6, hown7⟩
      case measure => simp [intOf]; omega
    · have hk3 : k = ns.length := by omega
      subst hk3
      have f0 : decide ((ns.length : Int) < ns.length) = false := decide_eq_false (by omega)
      rw [List.take_of_length_le (by omega), ← hpl] at hown
      obtain ⟨r1, r2⟩ := own_rpt hown (by omega)
      go_wp2_with fail
      go_ret
      exact ⟨_, rfl, r1, r2, hb⟩
theorem coreclo_any (w : World) (cb bm : Nat) (ks : List Int) (f : Int → Int) (hc : w.cell? ⟨cb, 0, none⟩ = some (.map (some bm))) (hm : MapK 2 w bm ks f) (id : Int) (hi : I64 id) :
    Calls Tryz.prog 50 #[.int .i64 id, .pointer (some ⟨cb, 0, none⟩)] w (fun e w' => e = .returned (.int .i64 (f id)) ∧ w = w') := by
  obtain ⟨x, hx⟩ : ∃ x, f id = x := ⟨_, rfl⟩
  have e1 := look57 hm hi hx
  rw [hx]
  go_enter Tryz.func50, Tryz.ntmps50
  go_wp2
  go_ret
  exact ⟨rfl, rfl⟩
end Go.Proofs.YtbaljljlahhkfaaGreatDoor
/- impl's Cores, whole. Condition: the library's variables are as they were laid. -/
set_option linter.unusedVariables false
set_option linter.unusedSimpArgs false
namespace Go.Proofs.YtbaljljlahhkfaaGreatDoor
open Go.RowKit Go.Sort

/-- how many a map in this block has -/
def mapLen (w : World) (b : Nat) : Nat := match w.heap[b]? with
  | some (.map es _) => es.size
  | _ => 0
theorem own_len {w : World} {b n : Nat} {R : Value → Option (DataW Unit × List MemPlace)} {D : DataW Unit} (h : w.ownsMap Tryz.prog 2 R b n D) : mapLen w b = Maps.size D := by
  obtain ⟨es, clock, h1, _, _, rfl⟩ := h
  unfold mapLen
  rw [h1]
  simp [Maps.size, length_sorted]
theorem any_ids (ns : List Nd) (j : Nat) (hj : j < ns.length) (x : Int) : decide (x ∈ idsOf (ns.take (j + 1))) = (decide (x = ns[j].id) || decide (x ∈ idsOf (ns.take j))) := by
  rw [take_snoc' _ j hj]
  unfold idsOf
  rw [List.map_append]
  by_cases h1 : x = ns[j].id
  · simp [h1]
  · simp [h1]
set_option maxHeartbeats 4000000 in
set_option maxRecDepth 100000 in
theorem cores_any (w : World) (hE : Env w) (S0 : Nat → Prop) (v : Value) (g : Gr) (h : RGr w S0 v g) : Calls Tryz.prog 18 #[v] w (CoreR g w) := by
  have h0 := h
  obtain ⟨v1, v2, rfl, h1, h2⟩ := h
  obtain ⟨a1, c1, rfl⟩ := h1.shape
  obtain ⟨a2, c2, rfl⟩ := h2.shape
  obtain ⟨n1, hn1⟩ : ∃ n, g.nodes.length = n := ⟨_, rfl⟩
  obtain ⟨n2, hn2⟩ : ∃ n, g.edges.length = n := ⟨_, rfl⟩
  have HN1 := Lib.hid hn1
  rw [hn1, hn2] at h0
  rw [hn1, hn2]
  clear h1 h2 hn1 hn2
  have hba := (Below.refl _ w).alloc (Nat.le_refl _) (.cells #[.slice a1 n1 c1, .slice a2 n2 c2] 32)
  have r1 := h0.below hba
  have hE1 := hE.below hba
  have x0 : (w.alloc (.cells #[.slice a1 n1 c1, .slice a2 n2 c2] 32)).cell? ⟨w.heap.size, 0, none⟩ = some (.slice a1 n1 c1) := by rw [World.cell?_alloc_mark]; rfl
  have x1 : (w.alloc (.cells #[.slice a1 n1 c1, .slice a2 n2 c2] 32)).cell? ⟨w.heap.size, 1, none⟩ = some (.slice a2 n2 c2) := by rw [World.cell?_alloc_mark]; rfl
  cases hg : gOk g with
  | false =>
    go_enter Tryz.func18, Tryz.ntmps18
    go_wp2_with (go_at_call 39; refine (graphOk_is _ hE1 _ _ _ _ hg r1).mono ?_; rintro e w1 ⟨rfl, hb1⟩)
    go_ret
    exact ⟨[], ⟨(fun _ => rfl), (fun h => by rw [hg] at h; cases h)⟩, PtsR.nil _ _ _ _ (hba.trans (hb1.mono hba.size))⟩
  | true =>
    have hw := gw_of hg
    have hids : ∀ x ∈ g.nodes, I64 x.id := fun x hx => id_I64 (gOk_id hg (List.mem_map.2 ⟨x, hx, rfl⟩))
    have hlen := (gOk_parts hg).1
    go_enter Tryz.func18, Tryz.ntmps18
    go_upto_region 4 with (first
      | (go_at_call 39; refine (graphOk_is _ hE1 _ _ _ _ hg r1).mono ?_; rintro e w1 ⟨rfl, hb1⟩; have r2 := r1.below hb1; have y0 := cell_kept (fun hl => hb1.block _ hl) x0; have y1 := cell_kept (fun hl => hb1.block _ hl) x1)
      | (go_at_call 49; refine (neighbours_any _ S0 _ g r2 hw).mono ?_; rintro e w2 ⟨bm, base, F, L, rfl, hN, hLm, hLn, hbm, hb2⟩))
    have hLl : ∀ a, (L a).length ≤ 200 := fun a => nb_len hw (fun e he => he) (hLn a) (fun x hx => (hLm a x).1 hx)
    have hLI : ∀ a x, x ∈ L a → I64 x := fun a x hx => by
      obtain ⟨e, he, _, q⟩ := (hLm a x).1 hx
      obtain ⟨m1, m2⟩ := gOk_mem hw he
      rcases q with ⟨_, rfl⟩ | ⟨_, rfl⟩
      · exact id_I64 (gOk_id hg m2)
      · exact id_I64 (gOk_id hg m1)
    have hmm := @run_makeMap Tryz.prog
    have hkl : (idsOf g.nodes).length < 1048576 := by unfold idsOf; rw [List.length_map]; omega
    have r3 := r2.below hb2
    have z0 := cell_kept (fun hl => hb2.block _ hl) y0
    have z1 := cell_kept (fun hl => hb2.block _ hl) y1
    have hbA : Below w.heap.size w w2 := (hba.trans (hb1.mono hba.size)).trans (hb2.mono (Nat.le_trans hba.size hb1.size))
    have hzb := lt_of_cell z0
    clear hba hb1 hb2 r1 r2 x0 x1 y0 y1 h0 hbm hE1
    have r3w := r3
    obtain ⟨w1', w2', hu, hNd, _⟩ := r3
    injection hu with hu
    have hu := Array.mk.inj hu
    simp only [List.cons.injEq, and_true] at hu
    obtain ⟨rfl, rfl⟩ := hu
    go_upto_region 6 with fail
    have e1 : (w2.alloc (.map #[] 0)).heap.size = w2.heap.size + 1 := by simp
    have e2 : ((w2.alloc (.map #[] 0)).alloc (.cells #[.map (some w2.heap.size)] 66)).heap.size = w2.heap.size + 1 + 1 := by simp
    have hbW : Below w2.heap.size w2 (((w2.alloc (.map #[] 0)).alloc (.cells #[.map (some w2.heap.size)] 66)).alloc (.map #[] 0)) := (((Below.refl _ w2).alloc (Nat.le_refl _) _).alloc (by simp) _).alloc (by simp <;> omega) _
    have hCk : Ck (((w2.alloc (.map #[] 0)).alloc (.cells #[.map (some w2.heap.size)] 66)).alloc (.map #[] 0)) (((w2.alloc (.map #[] 0)).alloc (.cells #[.map (some w2.heap.size)] 66)).alloc (.map #[] 0)) w2.heap.size (w2.heap.size + 1) w2.heap.size (idsOf g.nodes) (fun _ => 0) := by
      refine ⟨Below.refl _ _, cell_alloc (by rw [← e1, World.cell?_alloc_mark]; rfl) _, ?_⟩
      have h := MapK.made 2 w2 (idsOf g.nodes)
      exact (h.below (((Below.refl _ _).alloc (Nat.le_refl _) _).block _ h.lt)).below (((Below.refl _ _).alloc (Nat.le_refl _) _).block _ (Nat.lt_of_lt_of_le h.lt (by simp)))
    have hIn : (((w2.alloc (.map #[] 0)).alloc (.cells #[.map (some w2.heap.size)] 66)).alloc (.map #[] 0)).ownsMap Tryz.prog 2 (plainElem (H := Unit) Tryz.prog 4) (w2.heap.size + 1 + 1) 0 (.map []) := by
      rw [← e2]; exact World.ownsMap_made _ _ _ _
    have hs1 : (((w2.alloc (.map #[] 0)).alloc (.cells #[.map (some w2.heap.size)] 66)).alloc (.map #[] 0)).heap.size = w2.heap.size + 3 := by simp
    clear e1 e2
    generalize ((w2.alloc (.map #[] 0)).alloc (.cells #[.map (some w2.heap.size)] 66)).alloc (.map #[] 0) = W1 at hbW hCk hIn hs1 ⊢
    obtain ⟨bc, hbc⟩ : ∃ b, w2.heap.size = b := ⟨_, rfl⟩
    obtain ⟨cb, hcb⟩ : ∃ b, bc + 1 = b := ⟨_, rfl⟩
    obtain ⟨bi, hbi⟩ : ∃ b, cb + 1 = b := ⟨_, rfl⟩
    simp only [hbc, hcb, hbi]
    rw [hbc] at hCk hIn hs1 hbW hzb
    rw [hcb] at hCk hIn
    rw [hbi] at hIn
    have HB : Hid (w2.heap.size = bc) := Lib.hid hbc
    have HS1 : Hid (W1.heap.size = bi + 1) := Lib.hid (by omega)
    have hcbc : cb ≠ bc := by omega
    have hbic : bi ≠ cb := by omega
    have hbib : bi ≠ bc := by omega
    have hBi : bc ≤ bi := by omega
    have hBW : bc ≤ W1.heap.size := by omega
    have hcW : cb < W1.heap.size := by omega
    have hbcW : bc < W1.heap.size := by omega
    clear hbc hcb hbi hs1
    have hfr : ∀ u, Below bc W1 u → Below w2.heap.size w2 u := fun u hu => by rw [HB.out]; exact hbW.trans hu
    have hz0 : ∀ u, Below bc W1 u → u.cell? ⟨w.heap.size, 0, none⟩ = some (.slice a1 n1 c1) := fun u hu => cell_kept (fun hl => (hfr u hu).block _ hl) z0
    have hz1 : ∀ u, Below bc W1 u → u.cell? ⟨w.heap.size, 1, none⟩ = some (.slice a2 n2 c2) := fun u hu => cell_kept (fun hl => (hfr u hu).block _ hl) z1
    have q0 := hz0 W1 (Below.refl _ _)
    go_upto_region 7 with fail
    go_wp2_with fail
    go_loopw [7, 24] (fun _ iv wr => ∃ (j : Nat) (D : DataW Unit), j ≤ n1 ∧ iv = .int .i64 j ∧ wr.ownsMap Tryz.prog 2 (plainElem Tryz.prog 4) bi j D ∧ SetI D (fun x => decide (x ∈ idsOf (g.nodes.take j))) ∧ Ck W1 wr bc cb bc (idsOf g.nodes) (fun _ => 0)) (fun _ iv _ => n1 - (intOf iv).toNat)
    case atStart => exact ⟨0, _, by omega, rfl, hIn, by rw [show (fun x => decide (x ∈ idsOf (g.nodes.take 0))) = fun _ => false by funext x; simp [idsOf]]; exact SetG.none, hCk⟩
    case round =>
      clear hIn hCk q0
      obtain ⟨j, D, hj, rfl, hown, hS, K⟩ := hrel
      by_cases hlt : j < n1
      · have f0 : decide ((j : Int) < n1) = true := decide_eq_true (by omega)
        have f0' : decide (j < n1) = true := decide_eq_true hlt
        have hlt2 : (j : Int) < n1 := by omega
        have hjn : j < g.nodes.length := by rw [HN1.out]; exact hlt
        have hr := hNd.below ENd.kept (hfr wr K.below)
        obtain ⟨b, o, l1, d1, l2, d2, rfl, hS0, hc, hcl, hcf, _, _⟩ := RNd.at hr hjn
        have hT := any_ids g.nodes j hjn
        have hix := hids _ (List.getElem_mem hjn)
        obtain ⟨xi, hxi⟩ : ∃ xi, g.nodes[j].id = xi := ⟨_, rfl⟩
        obtain ⟨xl, hxl⟩ : ∃ xl, g.nodes[j].labels.length = xl := ⟨_, rfl⟩
        obtain ⟨xf, hxf⟩ : ∃ xf, g.nodes[j].fields.length = xf := ⟨_, rfl⟩
        rw [hxi] at hc hT hix
        rw [hxl] at hcl
        rw [hxf] at hcf
        clear hxi hxl hxf hr
        go_upto_region 9 with fail
        have hbA2 := (Below.refl _ wr).alloc (Nat.le_refl _) (.cells #[.int .i64 xi, .slice l1 xl d1, .slice l2 xf d2] 60)
        have hgA := World.grownBy_alloc wr (.cells #[.int .i64 xi, .slice l1 xl d1, .slice l2 xf d2] 60) none
        have K2 := K.grow0 hgA hBW
        have hown2 := hown.alloc (.cells #[.int .i64 xi, .slice l1 xl d1, .slice l2 xf d2] 60)
        have y0 : (wr.alloc (.cells #[.int .i64 xi, .slice l1 xl d1, .slice l2 xf d2] 60)).cell? ⟨wr.heap.size, 0, none⟩ = some (.int .i64 xi) := by rw [World.cell?_alloc_mark]; rfl
        clear hc hcl hcf K hown hbA2 hgA
        generalize wr.alloc (.cells #[.int .i64 xi, .slice l1 xl d1, .slice l2 xf d2] 60) = W2 at K2 hown2 y0 ⊢
        obtain ⟨w3, hr3, hown3, hg3⟩ := seti_store hS hown2 (by omega) hix
        have K3 := K2.grow hg3 hBi hbic hbib hBW
        have hS3 := hS.put xi
        rw [show (fun x => decide (x = xi) || decide (x ∈ idsOf (g.nodes.take j))) = fun x => decide (x ∈ idsOf (g.nodes.take (j + 1))) by funext x; exact (hT x).symm] at hS3
        clear hS hT
        go_wp2_with fail
        go_round
        case rel => exact ⟨j + 1, _, by omega, by go_num, hown3, hS3, K3⟩
        case measure => first | (simp [intOf]; done) | (simp [intOf]; omega)
      · have hj3 : j = n1 := by omega
        have f0 : decide ((j : Int) < n1) = false := decide_eq_false (by omega)
        have f0' : decide (j < n1) = false := decide_eq_false hlt
        have hlt2 : ¬ (j : Int) < n1 := by omega
        rw [List.take_of_length_le (by rw [HN1.out]; omega)] at hS
        have hown1 := hown.mono (show j ≤ n1 by omega)
        have hP0 : Peel (PId g.nodes) (CNb g.edges) 0 (fun v => decide (v ∈ idsOf g.nodes) = true) (fun _ => 0) := by
          refine (Peel.start (P := PId g.nodes) (C := CNb g.edges) _ (fun v _ => ⟨_, (cnb_card hLm hLn (fun u => decide (u ∈ idsOf g.nodes)) v).congr fun u => ?_⟩)).congr (fun v => ?_) (fun _ _ _ => rfl)
          · unfold CNb PId; simp
          · unfold PId; simp
        have hK1 := K
        have hS1 := hS
        have hmem : ∀ (k : Nat) (S : Int → Bool) (f : Int → Nat), Peel (PId g.nodes) (CNb g.edges) k (fun v => S v = true) f → ∀ v, S v = true → v ∈ idsOf g.nodes := fun k S f hP v hv => (hP.sub v hv).of
        have hbnd : ∀ (k : Nat) (S : Int → Bool) (f : Int → Nat), Peel (PId g.nodes) (CNb g.edges) k (fun v => S v = true) f → ∀ v, S v = true → k ≤ n1 := fun k S f hP v hv => by
          have := hP.bound hv (idsOf g.nodes) (fun T u q => q.mem hw)
          unfold idsOf at this
          rwa [List.length_map, HN1.out] at this
        have hI64 : ∀ v ∈ idsOf g.nodes, I64 v := fun v hv => id_I64 (gOk_id hg hv)
        have hn200 : n1 ≤ 200 := by have := HN1.out; omega
        clear hown hS K hj3
        go_upto_region 12 with fail
        go_wp2_with fail
        go_loopw [8, 9, 10, 11, 13] (fun kv _ _ _ _ wr => ∃ (k q : Nat) (D : DataW Unit) (S : Int → Bool) (f : Int → Nat), q = k + 1 ∧ kv = .int .i64 q ∧ wr.ownsMap Tryz.prog 2 (plainElem Tryz.prog 4) bi n1 D ∧ SetI D S ∧ Ck W1 wr bc cb bc (idsOf g.nodes) f ∧ Peel (PId g.nodes) (CNb g.edges) k (fun v => S v = true) f ∧ k ≤ n1 + 1) (fun kv _ _ _ _ _ => n1 + 3 - (intOf kv).toNat)
        case atStart => exact ⟨0, 1, _, _, _, rfl, by first | rfl | go_num, hown1, hS1, hK1, hP0, by omega⟩
        case round =>
          clear hown1 hS1 hK1 hP0 f0 f0' hlt2 hlt hj
          obtain ⟨k, q, D, S, f, hq, rfl, hown, hS, K, hP, hk⟩ := hrel
          have HQ := Lib.hid hq
          have hq1 : (q : Int) ≤ 1000 := by omega
          clear hq
          have hlen2 := fun ty => seti_len hS hown ty
          obtain ⟨s, hs⟩ : ∃ s, Maps.size D = s := ⟨_, rfl⟩
          rw [hs] at hlen2
          have HS := Lib.hid hs
          clear hs
          by_cases hpos : 0 < s
          · have f0 : decide ((0 : Int) < s) = true := decide_eq_true (by omega)
            have f0' : decide (0 < s) = true := decide_eq_true hpos
            have f0'' : (0 : Int) < s := by omega
            obtain ⟨v0, hv0⟩ := hS.some (by rw [HS.out]; exact hpos)
            have hk1 := hbnd k S f hP v0 hv0
            have hw1 : IntKind.i64.wrap ((q : Int) + 1) = (q : Int) + 1 := wrap64_of _ (by omega) (by omega)
            have hwq : IntKind.i64.wrap ((q : Int) - 1) = (k : Int) := by rw [show (q : Int) - 1 = k by have := HQ.out; omega]; exact wrap64_of _ (by omega) (by omega)
            go_upto_region 15 with fail
            go_wp2_with fail
            go_loopw [9, 10, 11, 13] (fun av _ _ _ wr => ∃ (again : Bool) (D : DataW Unit) (S : Int → Bool) (f : Int → Nat), av = .bool again ∧ wr.ownsMap Tryz.prog 2 (plainElem Tryz.prog 4) bi n1 D ∧ SetI D S ∧ Ck W1 wr bc cb bc (idsOf g.nodes) f ∧ Peel (PId g.nodes) (CNb g.edges) k (fun v => S v = true) f ∧ (again = false → ∀ v, S v = true → ∃ c, k + 1 ≤ c ∧ CardOf (CNb g.edges (fun u => S u = true) v) c)) (fun av _ _ _ wr => 2 * mapLen wr bi + moreOf av)
            case atStart => exact ⟨true, D, S, f, rfl, hown, hS, K, hP, fun q => by cases q⟩
            case round =>
              clear hown hS K hP hlen2 hpos f0 f0' f0'' hv0 HS
              obtain ⟨again, D, S, f, rfl, hown, hS, K, hP, hst⟩ := hrel
              cases again with
              | false =>
                have hP2 := hP.next (hst rfl)
                clear hst
                go_wp2_with fail
                go_round
                case rel => exact ⟨k + 1, q + 1, D, S, f, by rw [HQ.out], by first | rfl | go_num, hown, hS, K, hP2, by omega⟩
                case measure => have := HQ.out; first | (simp [intOf]; done) | (simp [intOf]; omega)
              | true =>
                clear hst
                go_upto_region 17 with fail
                go_upto_region 18 with (first
                  | (at_range; refine wpList_range_own _ rfl _ 80 rfl 2 4 kmap2 Tryz.underlying80 _ bi n1 _ rfl hown ?_; intro w0 hrg0 hg0 hs0)
                  | fail)
                go_frame
                have K0 := K.grow0 hg0 hBW
                have hrb := K.below.size
                have HSZ := Lib.hid (own_len hown)
                have hleft : ∀ v, S v = true → Maps.has D (.int .i64 v) = false → False := fun v q e => by
                  obtain ⟨l, _, _, h3, _⟩ := hS
                  rw [h3 v, q] at e
                  cases e
                obtain ⟨s0, hs0e⟩ : ∃ s, Maps.size D = s := ⟨_, rfl⟩
                rw [hs0e] at HSZ
                have hsz0 : Maps.size D ≤ s0 := Nat.le_of_eq hs0e
                obtain ⟨r, hr⟩ : ∃ r, wr.heap.size = r := ⟨_, rfl⟩
                rw [hr] at hrg0 hrb
                have hrcb : r ≠ cb := by omega
                have hrbc : r ≠ bc := by omega
                have hrB : bc ≤ r := by omega
                clear hg0 hs0 K hown hs0e
                simp only [hr]
                clear hr
                go_loopw [9, 10, 11, 13] (fun av _ _ _ w4 => ∃ (again : Bool) (left : Lit → Bool) (cnt : Nat) (D : DataW Unit) (S : Int → Bool) (f : Int → Nat), av = .bool again ∧ w4.ranges Tryz.prog 2 (plainElem Tryz.prog 4) bi r n1 D left cnt ∧ SetI D S ∧ Ck W1 w4 bc cb bc (idsOf g.nodes) f ∧ Peel (PId g.nodes) (CNb g.edges) k (fun v => S v = true) f ∧ (again = false → ∀ v, S v = true → left (.int .i64 v) = false → ∃ c, k + 1 ≤ c ∧ CardOf (CNb g.edges (fun u => S u = true) v) c) ∧ Maps.size D ≤ s0 ∧ (again = true → Maps.size D < s0)) (fun _ _ _ _ w4 => w4.rangeLeft bi r)
                case atStart => exact ⟨false, _, _, D, S, f, rfl, hrg0, hS, K0, hP, fun _ v q e => (hleft v q e).elim, hsz0, fun q => by cases q⟩
                case round =>
                  clear hrg0 hS K0 hP hleft hsz0
                  obtain ⟨again, left, cnt, D, S, f, rfl, hrg, hS, K, hP, hst, hsz, hszl⟩ := hrel
                  go_upto_region 19 with (at_next; refine wpList_next_ranges _ rfl _ rfl 2 kmap2 (plainElem Tryz.prog 4) (Value.int .i64) (id : Value → Value) (fun key kl hk => by obtain ⟨x, rfl, _⟩ := Maps.keyOf_int_inv Tryz.underlying2 hk; exact ⟨x, rfl⟩) (fun v y hv => ⟨v, rfl⟩) bi r _ _ _ _ rfl hrg ?_ ?_)
                  · intro _ hl0
                    have hown := hrg.owns
                    have HSZ2 := Lib.hid (own_len hown)
                    go_wp2_with fail
                    go_round
                    case rel => exact ⟨again, D, S, f, rfl, hown, hS, K, hP, fun q v hv => hst q v hv (hl0 _)⟩
                    case measure =>
                      rw [HSZ.out, HSZ2.out]
                      cases again with
                      | true => have := hszl rfl; simp [moreOf]; omega
                      | false => simp [moreOf]; omega
                  · intro x c kl y ps w5 cnt5 hkey hlx hyv hat5 hrg5 hlt5 hg5 hs5 hen
                    obtain ⟨x', ex, rfl, hwf⟩ := Maps.keyOf_int_inv Tryz.underlying2 hkey
                    cases ex
                    have hxI := i64_wf hwf
                    have hSx : S x = true := by
                      have h1 := Maps.has_true_of_atKey hat5
                      obtain ⟨l, _, _, h3, _⟩ := hS
                      rw [← h3 x]; exact h1
                    have hxid := hmem k S f hP x hSx
                    have K5 := K.grow hg5 hrB hrcb hrbc hBW
                    have hm5 := hN.below (hfr w5 K5.below)
                    obtain ⟨ax, cx, hFx⟩ := hm5.shape x
                    have hlook := (hm5.map.look hxI).2
                    have hrow := hm5.rows.own x
                    have hll := hLl x
                    obtain ⟨ln, hln⟩ : ∃ n, (L x).length = n := ⟨_, rfl⟩
                    rw [hln] at hFx hrow hll
                    rw [hFx] at hlook hrow
                    have HLN := Lib.hid hln
                    have hll2 : (ln : Int) ≤ 200 := by omega
                    have hcd := cnb_card hLm hLn S x
                    have hle5 := hrg5.left_eq
                    have hle0 := hrg.left_eq
                    clear hln hkey hyv hat5 hm5 hFx K hg5 hs5
                    go_upto_region 21 with fail
                    go_wp2_with fail
                    go_loopw [11, 13, 48] (fun cv _ jv w6 => ∃ j : Nat, j ≤ ln ∧ jv = .int .i64 j ∧ cv = .int .i64 ((((L x).take j).filter S).length : Nat) ∧ w6 = w5) (fun _ _ jv _ => ln - (intOf jv).toNat)
                    case atStart => exact ⟨0, by omega, rfl, rfl, rfl⟩
                    case round =>
                      obtain ⟨j, hjl, rfl, rfl, rfl⟩ := hrel
                      by_cases hltj : j < ln
                      · have k0 : decide ((j : Int) < ln) = true := decide_eq_true (by omega)
                        have k0' : decide (j < ln) = true := decide_eq_true hltj
                        have k0'' : (j : Int) < ln := by omega
                        have hjE : j < (L x).length := by rw [HLN.out]; exact hltj
                        obtain ⟨gx, cx', hEq, _, _, hat, _⟩ := own_at hrow (by omega)
                        injection hEq with e1 _ e3
                        subst e1
                        have z2 : wr.cell? ⟨gx, j, none⟩ = some (.int .i64 (L x)[j]) := by
                          have := hat j (.int .i64 (L x)[j]) (by rw [List.getElem?_map, List.getElem?_eq_getElem hjE]; rfl)
                          rwa [Nat.zero_add] at this
                        have hcl : (((L x).take j).filter S).length ≤ j := Nat.le_trans (List.length_filter_le _ _) (by rw [List.length_take]; omega)
                        have hT : (((L x).take (j + 1)).filter S).length = (((L x).take j).filter S).length + (if S (L x)[j] = true then 1 else 0) := by
                          rw [take_snoc' _ j hjE, List.filter_append, List.length_append, List.filter_cons]
                          split <;> rfl
                        have huI := hLI x _ (List.getElem_mem hjE)
                        obtain ⟨u, hu⟩ : ∃ u, (L x)[j] = u := ⟨_, rfl⟩
                        rw [hu] at z2 hT huI
                        have hlku := seti_look hS hrg5.owns huI
                        obtain ⟨q1, hq1e⟩ : ∃ q, (((L x).take j).filter S).length = q := ⟨_, rfl⟩
                        rw [hq1e] at hT hcl
                        simp only [hq1e]
                        have hq200 : (q1 : Int) ≤ 200 := by omega
                        clear hat hu hq1e
                        cases hsu : S u with
                        | true =>
                          rw [hsu] at hlku hT
                          rw [if_pos rfl] at hT
                          have HT := Lib.hid hT
                          clear hT hsu
                          go_wp2_with fail
                          go_round
                          case rel => exact ⟨j + 1, by omega, by go_num, by rw [HT.out]; go_num, by first | rfl | trivial⟩
                          case measure => first | (simp [intOf]; done) | (simp [intOf]; omega)
                        | false =>
                          rw [hsu] at hlku hT
                          rw [if_neg (by decide)] at hT
                          have HT := Lib.hid hT
                          clear hT hsu
                          go_wp2_with fail
                          go_round
                          case rel => exact ⟨j + 1, by omega, by go_num, by rw [HT.out]; go_num, by first | rfl | trivial⟩
                          case measure => first | (simp [intOf]; done) | (simp [intOf]; omega)
                      · have hj3 : j = ln := by omega
                        subst hj3
                        have k0 : decide ((j : Int) < j) = false := decide_eq_false (by omega)
                        rw [show (L x).take j = L x from List.take_of_length_le (by rw [HLN.out]; omega)]
                        obtain ⟨cn, hcn⟩ : ∃ q, ((L x).filter S).length = q := ⟨_, rfl⟩
                        rw [hcn] at hcd
                        simp only [hcn]
                        clear hcn
                        by_cases hck : cn < q
                        · have m0 : decide ((cn : Int) < q) = true := decide_eq_true (by omega)
                          have m0' : decide (cn < q) = true := decide_eq_true hck
                          have m0'' : (cn : Int) < q := by omega
                          have hqk := HQ.out
                          obtain ⟨w7, hput, K7, hg7⟩ := K5.put hkl hxid hxI k (by omega) (by omega) (Nat.le_refl _) hBW
                          have hrg7 := hrg5.kept hg7 (by intro e; exact hbib (Option.some.inj e)) (by intro e; exact hrbc (Option.some.inj e))
                          have zb := K5.box
                          have hP7 := Peel.drop CNb.mono hP (v := x) (S' := fun u => (S u && !decide (u = x)) = true) (f' := updN f x k) hSx hcd (by omega) (fun u => by simp) (fun u hu => by unfold updN; rw [if_neg hu]) (by unfold updN; rw [if_pos rfl])
                          have hS7 := hS.del x
                          have hlss := hS.less hrg5.owns hSx
                          clear hlook hrow hcd hst hszl hqk hP
                          go_wp2_with (at_delete; refine wpList_delete_ranges _ rfl _ _ 80 2 rfl 4 kmap2 Tryz.underlying80 _ bi r _ _ _ _ rfl hrg7 _ _ rfl (key2 hxI) ?_; intro w8 cnt8 hrg8 hle8 hturn8)
                          have K8 := K7.grow hturn8.grown hBi hbic hbib hBW
                          rw [Maps.strike_twice] at hrg8
                          have hlt8 := hrg8.left_eq
                          go_roundw
                          case rel => exact ⟨true, _, cnt8, _, _, _, rfl, hrg8, hS7, K8, hP7, (fun q => by cases q), by omega, fun _ => by omega⟩
                          case measure => rw [hlt8, hle0]; omega
                        · have m0 : decide ((cn : Int) < q) = false := decide_eq_false (by omega)
                          have m0' : decide (cn < q) = false := decide_eq_false hck
                          have m0'' : ¬ (cn : Int) < q := by omega
                          have hqk := HQ.out
                          have hst2 : again = false → ∀ v, S v = true → (left (.int .i64 v) && !(Lit.int .i64 v).sameKey (.int .i64 x)) = false → ∃ c, k + 1 ≤ c ∧ CardOf (CNb g.edges (fun u => S u = true) v) c := fun q v hv hl => by
                            rw [Bool.and_eq_false_iff, Bool.not_eq_false'] at hl
                            rcases hl with a | a
                            · exact hst q v hv a
                            · have : v = x := by have := WideAt.sameKey_eq a; injection this
                              subst this
                              exact ⟨cn, by omega, hcd⟩
                          clear hlook hrow hcd hst hqk
                          go_wp2_with fail
                          go_roundw
                          case rel => exact ⟨again, _, cnt5, _, _, _, rfl, hrg5, hS, K5, hP, hst2, hsz, hszl⟩
                          case measure => rw [hle5, hle0]; omega
          · have hs0 : s = 0 := by omega
            subst hs0
            have hzero := hS.zero HS.out
            have hdone := hP.done (fun v hv => by rw [hzero v] at hv; cases hv)
            have hper := pernode_core wr S0 _ g (r3w.below (hfr wr K.below)) hlen cb (fun id => ((f id : Nat) : Int)) (fun u hu x hx => coreclo_any u cb bc (idsOf g.nodes) _ (cell_kept (fun hl => hu.block _ hl) K.box) (K.core.below (hu.block bc K.core.lt)) x.id (hids x hx))
            have q0 := hz0 wr K.below
            have q1 := hz1 wr K.below
            have hbF := hbA.trans ((hfr wr K.below).mono hbA.size)
            clear hown hS K hP
            go_wp2_with (go_at_call 40; refine hper.mono ?_; rintro e w4 ⟨vv, rfl, p1, p2, hb4⟩)
            go_ret
            exact ⟨_, ⟨(fun h => by rw [hg] at h; cases h), (fun _ => ⟨f, hdone, rfl⟩)⟩, vv, rfl, p1.mono EPt.mono (fun b hb => Nat.le_trans hbF.size hb), Own.low p2 hbF.size, hbF.trans (hb4.mono hbF.size)⟩
end Go.Proofs.YtbaljljlahhkfaaGreatDoor
