/- Texts of one proof, joined in their order: each bears its own word of what it holds and on what condition. -/
import Derived.Test.YtllhimeffkefiaaGreatDoorMFd
import Derived.Test.YtllhimeffkefiaaGreatDoorMFf
set_option linter.unusedVariables false
set_option linter.unusedSimpArgs false
/- impl's FarFrom, whole. Condition: the library's variables are as they were laid. -/
set_option linter.unusedVariables false
set_option linter.unusedSimpArgs false
namespace Go.Proofs.YtllhimeffkefiaaGreatDoor
open Go.RowKit Go.Sort

/-- visit of FarFrom: the variable out in block cb, its row behind it -/
def FInv (cb : Nat) : VInv := fun W V done => ∃ v xs, W.cell? ⟨cb, 0, none⟩ = some v ∧ W.frozen? ⟨cb, 0, none⟩ = false ∧ W.ownsRow (cb + 1) 107 2 v xs.length (xs.flatMap cP) ∧ Ris xs ∧ (∀ p : Pt, p ∈ xs ↔ ∃ k : Nat, p.num = (k : Int) ∧ (p.node, k) ∈ done) ∧ xs.length = done.length ∧ V = fun q => q = cb ∨ v.ownBlock = some q
theorem finv_lt {cb : Nat} : ∀ W V d, FInv cb W V d → ∀ q, V q → q < W.heap.size := by
  rintro W V d ⟨v, xs, h1, hf, h2, _, _, _, rfl⟩ q (rfl | h)
  · exact lt_of_cell h1
  · exact (h2.lt q h).2
theorem finv_keep {cb : Nat} : ∀ W W' V d, FInv cb W V d → (∀ q, V q → W'.heap[q]? = W.heap[q]?) → FInv cb W' V d := by
  rintro W W' V d ⟨v, xs, h1, hf, h2, h3, h4, h5, rfl⟩ hk
  exact ⟨v, xs, (World.cell?_of_block (a := ⟨cb, 0, none⟩) (hk cb (.inl rfl))).trans h1, (World.frozen?_of_block (a := ⟨cb, 0, none⟩) (hk cb (.inl rfl))).trans hf, own_keptB h2 (fun q e => hk q (.inr e)), h3, h4, h5, rfl⟩
set_option maxHeartbeats 1000000 in
set_option maxRecDepth 100000 in
theorem visit_far {ids : List Int} (cb : Nat) : VisR 63 ids (FInv cb) cb := by
  rintro W V d u far ⟨v, xs, h1, hf, h2, h3, h4, h5, rfl⟩ hu hfar hnew hdl
  have hcl := lt_of_cell h1
  have hn : ∀ p ∈ xs, p.node ≠ u := fun p hp e => by
    obtain ⟨k, _, q⟩ := (h4 p).1 hp
    rw [e] at q
    exact hnew k q
  have hcall := insertBy_any W (cb + 1) v xs h2 hcl h3 (by omega) u (far : Nat) hn
  go_enter Tryz.func63, Tryz.ntmps63
  go_upto_region 2 with (go_at_call 64; refine hcall.mono ?_; rintro e w1 ⟨v', xs', rfl, k1, k2, k3, k4, k5⟩; obtain ⟨qa, qc, rfl⟩ := own_shapeC k1; have z1 := cell_kept (fun hl => k4.block cb hl (fun e => by have := (h2.lt cb e.symm).1; omega)) h1; have zf : w1.frozen? ⟨cb, 0, none⟩ = false := ((World.frozen?_of_block (a := ⟨cb, 0, none⟩) (k4.block cb hcl (fun e => by have := (h2.lt cb e.symm).1; omega))).trans hf))
  go_wp2
  go_ret
  have hoth : ∀ b, b ≠ cb → (w1.setCell ⟨cb, 0, none⟩ (.slice qa xs'.length qc)).heap[b]? = w1.heap[b]? := fun b hb => Below.heap_setCell _ _ _ _ (by show b ≠ cb; exact hb)
  have hlen : xs'.length = xs.length + 1 := by
    letI : DecidableEq Pt := fun _ _ => Classical.propDecidable _
    have hnd : ∀ {l : List Pt}, Ris l → l.Nodup := fun q => by
      rw [List.nodup_iff_pairwise_ne]
      exact q.imp fun h e => by subst e; omega
    have hni : (⟨u, (far : Nat)⟩ : Pt) ∉ xs := fun q => hn _ q rfl
    have a := nodup_le xs' (⟨u, (far : Nat)⟩ :: xs) (hnd k2) (fun p hp => by rcases (k3 p).1 hp with q | q; exact List.mem_cons_of_mem _ q; rw [q]; exact List.mem_cons_self)
    have b := nodup_le (⟨u, (far : Nat)⟩ :: xs) xs' (List.nodup_cons.2 ⟨hni, hnd h3⟩) (fun p hp => by rcases List.mem_cons.1 hp with q | q; exact (k3 p).2 (.inr q); exact (k3 p).2 (.inl q))
    rw [List.length_cons] at a b
    omega
  refine ⟨rfl, _, ⟨_, xs', World.cell?_setCell_same _ _ _ z1, (World.frozen?_setCell _ _ _ _).trans zf, own_keptB k1 (fun q e => hoth q (fun e2 => by subst e2; have := (k1.lt _ e).1; omega)), k2, fun p => ?_, by rw [hlen, List.length_append, h5]; rfl, rfl⟩, ⟨k4.os, k4.tape, k4.output, by simp [World.setCell]; exact k4.size, fun q hq hnq => (hoth q (fun e => hnq (.inl e))).trans (k4.block q hq (fun e => hnq (.inr e.symm)))⟩, fun q hq => ?_⟩
  · rw [k3 p, h4 p]
    constructor
    · rintro (⟨k, e, q⟩ | rfl)
      · exact ⟨k, e, List.mem_append_left _ q⟩
      · exact ⟨far, rfl, List.mem_append_right _ (List.mem_singleton.2 rfl)⟩
    · rintro ⟨k, e, q⟩
      rw [List.mem_append, List.mem_singleton, Prod.mk.injEq] at q
      rcases q with q | ⟨q1, q2⟩
      · exact .inl ⟨k, e, q⟩
      · right
        obtain ⟨pn, pv⟩ := p
        simp only at e q1
        rw [q1, e, q2]
  · rcases hq with rfl | hq
    · exact .inl (.inl rfl)
    · rcases k5 q hq with e | e
      · exact .inl (.inr e)
      · exact .inr e
set_option maxHeartbeats 2000000 in
set_option maxRecDepth 100000 in
theorem farfrom_any (w : World) (hE : Env w) (S : Nat → Prop) (v : Value) (g : Gr) (h : RGr w S v g) (s : Int) : Calls Tryz.prog 27 #[v, .int .i64 s] w (FarR g s w) := by
  have h0 := h.within
  obtain ⟨v1, v2, rfl, h1, h2⟩ := h
  obtain ⟨a1, c1, rfl⟩ := h1.shape
  obtain ⟨a2, c2, rfl⟩ := h2.shape
  obtain ⟨n1, hn1⟩ : ∃ n, g.nodes.length = n := ⟨_, rfl⟩
  obtain ⟨n2, hn2⟩ : ∃ n, g.edges.length = n := ⟨_, rfl⟩
  have HN1 := Lib.hid hn1
  rw [hn1, hn2] at h0
  rw [hn1, hn2]
  clear h1 h2 hn1 hn2
  have hba := (Below.refl _ w).alloc (Nat.le_refl _) (.cells #[.slice a1 n1 c1, .slice a2 n2 c2] 36)
  have r1 := h0.below hba
  have hE1 := hE.below hba
  have x0 : (w.alloc (.cells #[.slice a1 n1 c1, .slice a2 n2 c2] 36)).cell? ⟨w.heap.size, 0, none⟩ = some (.slice a1 n1 c1) := by rw [World.cell?_alloc_mark]; rfl
  have x1 : (w.alloc (.cells #[.slice a1 n1 c1, .slice a2 n2 c2] 36)).cell? ⟨w.heap.size, 1, none⟩ = some (.slice a2 n2 c2) := by rw [World.cell?_alloc_mark]; rfl
  cases hg : gOk g with
  | false =>
    go_enter Tryz.func27, Tryz.ntmps27
    go_wp2_with (go_at_call 48; refine (graphOk_is _ hE1 _ _ _ _ hg r1).mono ?_; rintro e w1 ⟨rfl, hb1⟩)
    go_ret
    exact ⟨[], ⟨(fun _ => rfl), (fun h => by rw [hg] at h; cases h)⟩, PtsR.nil _ _ _ _ (hba.trans (hb1.mono hba.size))⟩
  | true =>
    have hw := gw_of hg
    have hnA : ∀ u : World, RGr u (fun b => S b ∧ b < w.heap.size) (.agg #[.slice a1 n1 c1, .slice a2 n2 c2]) g → Calls Tryz.prog 61 #[.agg #[.slice a1 n1 c1, .slice a2 n2 c2], .int .i64 s] u (IntB (posN g.nodes s 0) u) := fun u r => by
      obtain ⟨v1', v2', hu, hNd, _⟩ := r
      injection hu with hu
      have hu := Array.mk.inj hu
      simp only [List.cons.injEq, and_true] at hu
      obtain ⟨rfl, rfl⟩ := hu
      have hn1' : g.nodes.length = n1 := HN1.out
      have := inodeAt_any u _ a1 a2 n2 c1 c2 g.nodes s (by rw [hn1']; exact hNd)
      rwa [hn1'] at this
    have hp := posN_thr g.nodes s 0
    by_cases hs : s ∈ idsOf g.nodes
    case neg =>
      have hth : thr g.nodes s = false := by
        cases q : thr g.nodes s with
        | false => rfl
        | true => exact absurd (thr_iff.1 q) hs
      rw [hth] at hp
      generalize posN g.nodes s 0 = z at hp hnA
      have HN := Lib.hid hs
      clear hs hth
      simp only [Bool.not_false] at hp
      go_enter Tryz.func27, Tryz.ntmps27
      go_wp2_with (first
        | (go_at_call 48; refine (graphOk_is _ hE1 _ _ _ _ hg r1).mono ?_; rintro e w1 ⟨rfl, hb1⟩; have r2 := r1.below hb1; have y0 := cell_kept (fun hl => hb1.block _ hl) x0; have y1 := cell_kept (fun hl => hb1.block _ hl) x1)
        | (go_at_call 61; refine (hnA _ r2).mono ?_; rintro e w2 ⟨rfl, hb2⟩))
      go_ret
      exact ⟨[], ⟨(fun _ => rfl), (fun _ q => absurd q HN.out)⟩, PtsR.nil _ _ _ _ ((hba.trans (hb1.mono hba.size)).trans (hb2.mono (Nat.le_trans hba.size hb1.size)))⟩
    have hth : thr g.nodes s = true := thr_iff.2 hs
    rw [hth] at hp
    generalize posN g.nodes s 0 = z at hp hnA
    simp only [Bool.not_true] at hp
    have HS := Lib.hid hs
    clear hs hth
    go_enter Tryz.func27, Tryz.ntmps27
    go_upto_region 4 with (first
      | (go_at_call 48; refine (graphOk_is _ hE1 _ _ _ _ hg r1).mono ?_; rintro e w1 ⟨rfl, hb1⟩; have r2 := r1.below hb1; have y0 := cell_kept (fun hl => hb1.block _ hl) x0; have y1 := cell_kept (fun hl => hb1.block _ hl) x1)
      | (go_at_call 61; refine (hnA _ r2).mono ?_; rintro e w2 ⟨rfl, hb2⟩))
    have hb3 := (Below.refl _ w2).alloc (Nat.le_refl _) (.cells #[.slice none 0 0] 54)
    have hb13 := hb1.trans ((hb2.trans (hb3.mono hb2.size)).mono hb1.size)
    have r4 := r1.below hb13
    have t0 := cell_kept (fun hl => hb13.block _ hl) x0
    have t1 := cell_kept (fun hl => hb13.block _ hl) x1
    have hbA := hba.trans (hb13.mono hba.size)
    have z0 : (w2.alloc (.cells #[.slice none 0 0] 54)).cell? ⟨w2.heap.size, 0, none⟩ = some (.slice none 0 0) := by rw [World.cell?_alloc_mark]; rfl
    have zf : (w2.alloc (.cells #[.slice none 0 0] 54)).frozen? ⟨w2.heap.size, 0, none⟩ = false := by rw [World.frozen?_alloc_mark]; simp
    have hcbw : w.heap.size ≤ w2.heap.size := by have := hb1.size; have := hb2.size; have := hba.size; omega
    clear hb1 hb2 hb3 hb13 r1 r2 x0 x1 y0 y1 hnA hE1 hba
    obtain ⟨cb, hcb⟩ : ∃ b, w2.heap.size = b := ⟨_, rfl⟩
    rw [hcb] at z0 zf hcbw
    simp only [hcb]
    clear hcb
    generalize w2.alloc (.cells #[.slice none 0 0] 54) = W at z0 zf t0 t1 r4 hbA ⊢
    have hI : FInv cb W (fun q => q = cb ∨ (Value.slice none 0 0).ownBlock = some q) [] := ⟨_, [], z0, zf, World.ownsRow_nil _ _ _ _, List.Pairwise.nil, fun p => by simp, rfl, rfl⟩
    have hlev := levels_far W _ _ g r4 hw s HS.out false cb _ (FInv cb) (by rintro b ⟨_, hb⟩ (rfl | hb2); omega; cases hb2) hI finv_lt finv_keep (visit_far cb)
    have hcW := lt_of_cell z0
    clear hI zf r4
    go_upto_region 5 with (go_at_call 62; refine hlev.mono ?_; rintro e w3 ⟨rfl, V, done, ⟨vf, xs, k1, k2, k3, k4, k5, k6, k7⟩, hd, hnd, hsub, hkp, hV⟩)
    obtain ⟨s1, s2⟩ := own_rp2 k3 (by
      have := nodup_le _ (idsOf g.nodes) hnd (fun x hx => by obtain ⟨p, hp, rfl⟩ := List.mem_map.1 hx; exact hsub p hp)
      have hn := hw.n
      unfold idsOf at this
      rw [List.length_map, List.length_map] at this
      omega)
    have HX : Hid (FarX g s xs) := Lib.hid ⟨fun q => by
      rcases q with q | q
      · rw [hg] at q; cases q
      · exact absurd HS.out q, fun _ _ => ⟨k4, fun p => by
        rw [k5 p]
        constructor
        · rintro ⟨k, e, q⟩; exact ⟨k, e, (hd _ _).1 q⟩
        · rintro ⟨k, e, q⟩; exact ⟨k, e, (hd _ _).2 q⟩⟩⟩
    have hbZ : Below w.heap.size w w3 := hbA.trans (hkp.below hbA.size (by rintro q (rfl | hq); exact hcbw; cases hq))
    have HS1 := Lib.hid s1
    have HS2 := Lib.hid s2
    clear s1 s2 k3 k4 k5 k6 k7 hd hnd hsub hkp hV hlev
    go_wp2_with fail
    go_ret
    exact ⟨_, HX.out, _, rfl, HS1.out.mono EPt.mono (fun b hb => by omega), Own.low HS2.out (by omega), hbZ⟩
end Go.Proofs.YtllhimeffkefiaaGreatDoor
