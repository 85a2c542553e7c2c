/- Texts of one proof, joined in their order: each bears its own word of what it holds and on what condition. -/
import Derived.Test.YtllhimeffkefiaaGreatDoorMWh
import Derived.Test.YtllhimeffkefiaaGreatDoorML
import Derived.Test.YtllhimeffkefiaaGreatDoorMCb
import Derived.Test.YtllhimeffkefiaaGreatDoorMCd
set_option linter.unusedVariables false
set_option linter.unusedSimpArgs false
/- Distances from a node over the edges, plain: the specification's rounds; rows of nodes with how far they are, by rising nodes. No walk here. -/
set_option linter.unusedVariables false
set_option linter.unusedSimpArgs false
namespace Go.Proofs.YtllhimeffkefiaaGreatDoor

/-- from s one comes to u by k edges and no fewer -/
def Fw (es : List Ed) (s : Int) (k : Nat) (u : Int) : Prop := Dst (Arcd es false) s k u
theorem Fw.same {es : List Ed} {s u : Int} {k j : Nat} (h : Fw es s k u) (q : Fw es s j u) : k = j := Dst.same h q
theorem Fw.bound {g : Gr} (h : Gw g) {s u : Int} {k : Nat} (hs : s ∈ idsOf g.nodes) (q : Fw g.edges s k u) : k + 1 ≤ (idsOf g.nodes).length := Dst.bound hs (fun a b r => (arcd_in h r).2) q
theorem Fw.mem {g : Gr} (h : Gw g) {s u : Int} {k : Nat} (hs : s ∈ idsOf g.nodes) (q : Fw g.edges s k u) : u ∈ idsOf g.nodes := wlk_in hs (fun a b r => (arcd_in h r).2) q.1
/-- round d, i edges looked at -/
structure FarJ (g : Gr) (s : Int) (d i : Nat) (far : Nat → Int) : Prop where
  rng : ∀ (j : Nat) (hj : j < g.nodes.length), far j = -1 ∨ ∃ k : Nat, k ≤ d + 1 ∧ far j = k ∧ Fw g.edges s k g.nodes[j].id
  old : ∀ (j : Nat) (hj : j < g.nodes.length) (k : Nat), k ≤ d → Fw g.edges s k g.nodes[j].id → far j = k
  new : ∀ (j : Nat) (hj : j < g.nodes.length), (∃ (m : Nat) (hm : m < g.edges.length), m < i ∧ g.edges[m].dst = g.nodes[j].id ∧ Fw g.edges s d g.edges[m].src) → Fw g.edges s (d + 1) g.nodes[j].id → far j = ((d + 1 : Nat) : Int)
theorem FarJ.start {g : Gr} (h : Gw g) {f : Nat} (hf : f < g.nodes.length) : FarJ g g.nodes[f].id 0 0 (fun j => if j = f then 0 else -1) := by
  refine ⟨fun j hj => ?_, fun j hj k hk q => ?_, fun j hj z q => ?_⟩
  · by_cases e : j = f
    · subst e; exact .inr ⟨0, by omega, by simp, (dst_zero _ _ _).2 rfl⟩
    · exact .inl (by simp [e])
  · have : k = 0 := by omega
    subst this
    have := gOk_inj h hj hf ((dst_zero _ _ _).1 q)
    subst this
    simp
  · obtain ⟨m, hm, hlt, _⟩ := z; omega
theorem FarJ.round {g : Gr} {s : Int} {d : Nat} {far : Nat → Int} (hF : FarJ g s d g.edges.length far) : FarJ g s (d + 1) 0 far := by
  refine ⟨fun j hj => ?_, fun j hj k hk q => ?_, fun j hj z q => ?_⟩
  · rcases hF.rng j hj with e | ⟨k, h1, h2, h3⟩
    · exact .inl e
    · exact .inr ⟨k, by omega, h2, h3⟩
  · by_cases e : k = d + 1
    · subst e
      obtain ⟨v, hv, hr⟩ := Dst.prev q
      rw [arcd_false] at hr
      obtain ⟨e, he, rfl, e2⟩ := hr
      obtain ⟨m, hm, rfl⟩ := List.mem_iff_getElem.1 he
      exact hF.new j hj ⟨m, hm, hm, e2, hv⟩ q
    · exact hF.old j hj k (by omega) q
  · obtain ⟨m, hm, hlt, _⟩ := z; omega
theorem FarJ.skip {g : Gr} (h : Gw g) {s : Int} {d i : Nat} {far : Nat → Int} (hF : FarJ g s d i far) {a b : Nat} (hi : i < g.edges.length) (ha : a < g.nodes.length) (hb : b < g.nodes.length) (ea : g.nodes[a].id = g.edges[i].src) (eb : g.nodes[b].id = g.edges[i].dst) (hn : far a = d → 0 ≤ far b) : FarJ g s d (i + 1) far := by
  refine ⟨hF.rng, hF.old, fun j hj z q => ?_⟩
  obtain ⟨m, hm, hlt, e1, q'⟩ := z
  by_cases e2 : m = i
  · subst e2
    have : j = b := gOk_inj h hj hb (by rw [eb, e1])
    subst this
    have h0 := hn (hF.old a ha d (Nat.le_refl _) (by rw [ea]; exact q'))
    rcases hF.rng j hj with e | ⟨k, _, h2, h3⟩
    · rw [e] at h0; omega
    · have := h3.same q
      subst this
      exact h2
  · exact hF.new j hj ⟨m, hm, by omega, e1, q'⟩ q
theorem FarJ.put {g : Gr} (h : Gw g) {s : Int} {d i : Nat} {far : Nat → Int} (hF : FarJ g s d i far) {a b : Nat} (hi : i < g.edges.length) (ha : a < g.nodes.length) (hb : b < g.nodes.length) (ea : g.nodes[a].id = g.edges[i].src) (eb : g.nodes[b].id = g.edges[i].dst) (hfar : far a = d) (hneg : far b < 0) :
    FarJ g s d (i + 1) (fun j => if j = b then ((d + 1 : Nat) : Int) else far j) ∧ Fw g.edges s (d + 1) g.nodes[b].id := by
  have hda : Fw g.edges s d g.nodes[a].id := by
    rcases hF.rng a ha with e | ⟨k, _, h2, h3⟩
    · rw [e] at hfar; omega
    · have : k = d := by rw [h2] at hfar; omega
      subst this
      exact h3
  have hup : ¬ Upt (Arcd g.edges false) s d g.nodes[b].id := fun q => by
    obtain ⟨j, hj, hd⟩ := (upt_dst _).1 q
    have := hF.old b hb j hj hd
    omega
  have hnew : Fw g.edges s (d + 1) g.nodes[b].id := (dst_succ _).2 ⟨⟨_, hda, by rw [arcd_false]; exact ⟨_, List.getElem_mem hi, ea.symm, eb.symm⟩⟩, hup⟩
  refine ⟨⟨fun j hj => ?_, fun j hj k hk q => ?_, fun j hj z q => ?_⟩, hnew⟩
  · by_cases e : j = b
    · subst e; exact .inr ⟨d + 1, Nat.le_refl _, if_pos rfl, hnew⟩
    · simp only [if_neg e]; exact hF.rng j hj
  · by_cases e : j = b
    · subst e; have := hnew.same q; omega
    · simp only [if_neg e]; exact hF.old j hj k hk q
  · by_cases e : j = b
    · simp only [if_pos e]
    · simp only [if_neg e]
      obtain ⟨m, hm, hlt, e1, q'⟩ := z
      refine hF.new j hj ⟨m, hm, ?_, e1, q'⟩ q
      have : m ≠ i := fun e2 => by
        subst e2
        exact e (gOk_inj h hj hb (by rw [eb, e1]))
      omega
/-- the distances, all told -/
def FarT (g : Gr) (s : Int) (far : Nat → Int) : Prop := (∀ (j : Nat) (hj : j < g.nodes.length) (k : Nat), far j = (k : Int) ↔ Fw g.edges s k g.nodes[j].id) ∧ ∀ (j : Nat) (hj : j < g.nodes.length), far j = -1 ∨ ∃ k : Nat, k < g.nodes.length ∧ far j = k
theorem FarJ.all {g : Gr} (h : Gw g) {s : Int} (hs : s ∈ idsOf g.nodes) {d : Nat} {far : Nat → Int} (hF : FarJ g s d 0 far) (hno : ∀ (j : Nat) (hj : j < g.nodes.length), ¬ Fw g.edges s d g.nodes[j].id) : FarT g s far := by
  have hall : ∀ u, ¬ Fw g.edges s d u := fun u q => by
    obtain ⟨j, hj, _, rfl⟩ := gOk_pos h (q.mem h hs)
    exact hno j hj q
  have hb : ∀ {j : Nat} (hj : j < g.nodes.length) {k : Nat}, Fw g.edges s k g.nodes[j].id → far j = k := fun {j} hj {k} q => hF.old j hj k (Nat.le_of_lt (upt_all hall q)) q
  refine ⟨fun j hj k => ⟨fun e => ?_, fun q => hb hj q⟩, fun j hj => ?_⟩
  · rcases hF.rng j hj with e2 | ⟨k', _, h2, h3⟩
    · rw [e2] at e; omega
    · have : k' = k := by rw [h2] at e; omega
      subst this
      exact h3
  · rcases hF.rng j hj with e2 | ⟨k', _, h2, h3⟩
    · exact .inl e2
    · have := h3.bound h hs
      unfold idsOf at this
      rw [List.length_map] at this
      exact .inr ⟨k', by omega, h2⟩

/-! ### rows of nodes, by rising nodes -/
def Ris (xs : List Pt) : Prop := xs.Pairwise fun a b => a.node < b.node
theorem ris_same : ∀ {xs ys : List Pt}, Ris xs → Ris ys → (∀ p, p ∈ xs ↔ p ∈ ys) → xs = ys
  | [], [], _, _, _ => rfl
  | [], y :: ys, _, _, h => by have := (h y).2 (by simp); simp at this
  | x :: xs, [], _, _, h => by have := (h x).1 (by simp); simp at this
  | x :: xs, y :: ys, h1, h2, h => by
    unfold Ris at h1 h2
    rw [List.pairwise_cons] at h1 h2
    have e : x = y := by
      have a := (h x).1 (by simp)
      have b := (h y).2 (by simp)
      rw [List.mem_cons] at a b
      rcases a with a | a
      · exact a
      · rcases b with b | b
        · exact b.symm
        · have := h1.1 y b
          have := h2.1 x a
          omega
    subst e
    congr 1
    refine ris_same h1.2 h2.2 fun p => ?_
    have q := h p
    rw [List.mem_cons, List.mem_cons] at q
    constructor
    · intro m
      rcases q.1 (.inr m) with z | z
      · subst z; have := h1.1 p m; omega
      · exact z
    · intro m
      rcases q.2 (.inr m) with z | z
      · subst z; have := h2.1 p m; omega
      · exact z
/-- laid in at place k -/
theorem ris_insert {xs : List Pt} (h : Ris xs) {x : Pt} (hn : ∀ p ∈ xs, p.node ≠ x.node) {k : Nat} (hk : k ≤ xs.length) (h1 : ∀ (j : Nat) (hj : j < xs.length), j < k → xs[j].node < x.node) (h2 : ∀ (hj : k < xs.length), ¬ xs[k].node < x.node) : Ris (xs.take k ++ x :: xs.drop k) ∧ ∀ p, p ∈ xs.take k ++ x :: xs.drop k ↔ p ∈ xs ∨ p = x := by
  have hp := List.pairwise_iff_getElem.1 h
  constructor
  · unfold Ris
    rw [List.pairwise_append, List.pairwise_cons]
    refine ⟨List.Pairwise.sublist (List.take_sublist _ _) h, ⟨fun p hp2 => ?_, List.Pairwise.sublist (List.drop_sublist _ _) h⟩, fun a ha b hb => ?_⟩
    · obtain ⟨i, hi, rfl⟩ := List.mem_iff_getElem.1 hp2
      rw [List.length_drop] at hi
      rw [List.getElem_drop]
      have hkl : k < xs.length := by omega
      have a1 := h2 hkl
      have a2 := hn _ (List.getElem_mem hkl)
      by_cases e : i = 0
      · subst e
        simp only [Nat.add_zero]
        omega
      · have := hp k (k + i) hkl (by omega) (by omega)
        omega
    · obtain ⟨i, hi, rfl⟩ := List.mem_iff_getElem.1 ha
      rw [List.length_take] at hi
      rw [List.getElem_take]
      have a1 := h1 i (by omega) (by omega)
      rw [List.mem_cons] at hb
      rcases hb with rfl | hb
      · exact a1
      · obtain ⟨m, hm, rfl⟩ := List.mem_iff_getElem.1 hb
        rw [List.length_drop] at hm
        rw [List.getElem_drop]
        exact hp i (k + m) (by omega) (by omega) (by omega)
  · intro p
    rw [List.mem_append, List.mem_cons]
    constructor
    · rintro (q | q | q)
      · exact .inl (List.mem_of_mem_take q)
      · exact .inr q
      · exact .inl (List.mem_of_mem_drop q)
    · rintro (q | q)
      · rw [← List.take_append_drop k xs, List.mem_append] at q
        rcases q with q | q
        · exact .inl q
        · exact .inr (.inr q)
      · exact .inr (.inl q)
/-- what FarFrom answers -/
def FarX (g : Gr) (s : Int) (xs : List Pt) : Prop := ((gOk g = false ∨ s ∉ idsOf g.nodes) → xs = []) ∧ (gOk g = true → s ∈ idsOf g.nodes → Ris xs ∧ ∀ p : Pt, p ∈ xs ↔ ∃ k : Nat, p.num = (k : Int) ∧ Fw g.edges s k p.node)
theorem FarX.same {g : Gr} {s : Int} {xs ys : List Pt} (h : FarX g s xs) (k : FarX g s ys) : xs = ys := by
  by_cases hs : s ∈ idsOf g.nodes
  · cases hg : gOk g with
    | false => rw [h.1 (.inl hg), k.1 (.inl hg)]
    | true =>
      obtain ⟨a1, a2⟩ := h.2 hg hs
      obtain ⟨b1, b2⟩ := k.2 hg hs
      exact ris_same a1 b1 fun p => (a2 p).trans (b2 p).symm
  · rw [h.1 (.inr hs), k.1 (.inr hs)]
theorem ris_len {g : Gr} (hw : Gw g) {s : Int} (hs : s ∈ idsOf g.nodes) {xs : List Pt} (h1 : Ris xs) (h2 : ∀ p : Pt, p ∈ xs → ∃ k : Nat, Fw g.edges s k p.node) : xs.length ≤ 200 := by
  have hnd : (xs.map Pt.node).Nodup := by
    rw [List.nodup_iff_pairwise_ne, List.pairwise_map]
    exact h1.imp fun q e => by omega
  have := nodup_le _ (idsOf g.nodes) hnd (fun u hu => by
    obtain ⟨p, hp, rfl⟩ := List.mem_map.1 hu
    obtain ⟨k, q⟩ := h2 p hp
    exact q.mem hw hs)
  have hn := hw.n
  unfold idsOf at this
  rw [List.length_map, List.length_map] at this
  omega
theorem FarX.len {g : Gr} {s : Int} {xs : List Pt} (h : FarX g s xs) : xs.length ≤ 200 := by
  by_cases hs : s ∈ idsOf g.nodes
  · cases hg : gOk g with
    | false => rw [h.1 (.inl hg)]; simp
    | true =>
      obtain ⟨a1, a2⟩ := h.2 hg hs
      exact ris_len (gw_of hg) hs a1 (fun p hp => by obtain ⟨k, _, q⟩ := (a2 p).1 hp; exact ⟨k, q⟩)
  · rw [h.1 (.inr hs)]; simp
/-- the specification's row -/
def rowF (ns : List Nd) (far : Nat → Int) (k : Nat) : List Pt := (List.range k).filterMap fun j => if 0 ≤ far j then some ⟨(ns.getD j n0).id, far j⟩ else none
theorem rowF_snoc (ns : List Nd) (far : Nat → Int) (k : Nat) : rowF ns far (k + 1) = rowF ns far k ++ (if 0 ≤ far k then [⟨(ns.getD k n0).id, far k⟩] else []) := by
  unfold rowF
  rw [List.range_succ, List.filterMap_append]
  by_cases h : 0 ≤ far k <;> simp [h]
theorem rowF_len (ns : List Nd) (far : Nat → Int) (k : Nat) : (rowF ns far k).length ≤ k := by
  unfold rowF
  exact Nat.le_trans (List.length_filterMap_le _ _) (by rw [List.length_range]; exact Nat.le_refl _)
theorem rowF_x {g : Gr} (hg : gOk g = true) {s : Int} (hs : s ∈ idsOf g.nodes) {far : Nat → Int} (h : FarT g s far) : FarX g s (rowF g.nodes far g.nodes.length) := by
  have hw := gw_of hg
  refine ⟨fun q => ?_, fun _ _ => ⟨?_, fun p => ?_⟩⟩
  · rcases q with q | q
    · rw [hg] at q; cases q
    · exact absurd hs q
  · unfold Ris rowF
    rw [List.pairwise_filterMap]
    refine List.Pairwise.imp_of_mem ?_ List.pairwise_lt_range
    intro a b ha hb hab x hx y hy
    rw [List.mem_range] at ha hb
    split at hx
    · split at hy
      · simp only [Option.some.injEq] at hx hy
        subst hx
        subst hy
        rw [getD_eq ha, getD_eq hb]
        exact hw.rise a b hb hab
      · simp at hy
    · simp at hx
  · unfold rowF
    rw [List.mem_filterMap]
    constructor
    · rintro ⟨j, hj, q⟩
      rw [List.mem_range] at hj
      split at q
      · rename_i h0
        simp only [Option.some.injEq] at q
        subst q
        rw [getD_eq hj]
        refine ⟨(far j).toNat, by simp; omega, (h.1 j hj _).1 (by omega)⟩
      · simp at q
    · rintro ⟨k, e, q⟩
      obtain ⟨j, hj, _, ej⟩ := gOk_pos hw (q.mem hw hs)
      refine ⟨j, List.mem_range.2 hj, ?_⟩
      have hf : far j = (k : Int) := (h.1 j hj k).2 (by rw [ej]; exact q)
      rw [if_pos (by omega), getD_eq hj, ej, hf, ← e]
end Go.Proofs.YtllhimeffkefiaaGreatDoor
/- The specification's distances from a node. Condition: a right graph. -/
set_option linter.unusedVariables false
set_option linter.unusedSimpArgs false
namespace Go.Proofs.YtllhimeffkefiaaGreatDoor
open Go.RowKit Go.Sort

/-- the graph's box at the call's first block, the row of distances behind it -/
structure FrW (w W : World) (v1 v2 : Value) (n : Nat) (far : Nat → Int) : Prop where
  below : Below w.heap.size w W
  b0 : W.cell? ⟨w.heap.size, 0, none⟩ = some v1
  b1 : W.cell? ⟨w.heap.size, 1, none⟩ = some v2
  cell : ∀ j, j < n → W.cell? ⟨w.heap.size + 1, j, none⟩ = some (.int .i64 (far j))
  fro : ∀ o, W.frozen? ⟨w.heap.size + 1, o, none⟩ = false
  sz : w.heap.size + 1 < W.heap.size
theorem FrW.put {w W : World} {v1 v2 : Value} {n : Nat} {far : Nat → Int} (h : FrW w W v1 v2 n far) {a : Nat} (ha : a < n) (x : Int) : FrW w (W.setCell ⟨w.heap.size + 1, a, none⟩ (.int .i64 x)) v1 v2 n (fun j => if j = a then x else far j) := by
  refine ⟨⟨h.below.os, h.below.tape, h.below.output, by simp [World.setCell]; exact h.below.size, fun b hb => (Below.heap_setCell _ _ _ _ (by show b ≠ w.heap.size + 1; omega)).trans (h.below.block b hb)⟩, (World.cell?_setCell_other _ _ _ _ (by simp)).trans h.b0, (World.cell?_setCell_other _ _ _ _ (by simp)).trans h.b1, fun j hj => ?_, fun o => (World.frozen?_setCell _ _ _ _).trans (h.fro o), by simp [World.setCell]; exact h.sz⟩
  by_cases e : j = a
  · subst e
    rw [if_pos rfl]
    exact World.cell?_setCell_same _ _ _ (h.cell j hj)
  · rw [if_neg e]
    exact (World.cell?_setCell_other _ _ _ _ (fun q => e (by injection q with q1 q2; omega))).trans (h.cell j hj)
theorem FrW.congr {w W : World} {v1 v2 : Value} {n : Nat} {far far' : Nat → Int} (h : FrW w W v1 v2 n far) (he : ∀ j, j < n → far j = far' j) : FrW w W v1 v2 n far' := ⟨h.below, h.b0, h.b1, fun j hj => by rw [← he j hj]; exact h.cell j hj, h.fro, h.sz⟩
theorem FrW.step {w W W' : World} {v1 v2 : Value} {n : Nat} {far : Nat → Int} (h : FrW w W v1 v2 n far) (hb : Below W.heap.size W W') : FrW w W' v1 v2 n far :=
  ⟨h.below.trans (hb.mono h.below.size), cell_kept (fun hl => hb.block _ hl) h.b0, cell_kept (fun hl => hb.block _ hl) h.b1, fun j hj => cell_kept (fun hl => hb.block _ hl) (h.cell j hj), fun o => (World.frozen?_of_block (a := ⟨w.heap.size + 1, o, none⟩) (hb.block _ h.sz)).trans (h.fro o), Nat.lt_of_lt_of_le h.sz hb.size⟩
def FarRR (g : Gr) (s : Int) (w : World) (e : Ending) (w' : World) : Prop := ∃ (gF : Nat) (far : Nat → Int), e = .returned (.slice (some ⟨gF, 0, none⟩) g.nodes.length g.nodes.length) ∧ w.heap.size ≤ gF ∧ (∀ j, j < g.nodes.length → w'.cell? ⟨gF, j, none⟩ = some (.int .i64 (far j))) ∧ FarT g s far ∧ Below w.heap.size w w'
set_option maxHeartbeats 4000000 in
set_option maxRecDepth 100000 in
theorem sfar_any (w : World) (S : Nat → Prop) (v : Value) (g : Gr) (h : RGr w S v g) (hw : Gw g) (f : Nat) (hf : f < g.nodes.length) :
    Calls Tryz.prog 55 #[v, .int .i64 f] w (FarRR g g.nodes[f].id w) := by
  have h0 := h
  obtain ⟨v1, v2, rfl, h1, h2⟩ := h
  obtain ⟨a1, c1, rfl⟩ := h1.shape
  obtain ⟨a2, c2, rfl⟩ := h2.shape
  obtain ⟨n1, hn1⟩ : ∃ n, g.nodes.length = n := ⟨_, rfl⟩
  obtain ⟨n2, hn2⟩ : ∃ n, g.edges.length = n := ⟨_, rfl⟩
  have HN1 := Lib.hid hn1
  have HN2 := Lib.hid hn2
  have hl1 := hw.n
  have hl2 := hw.e
  unfold FarRR
  rw [hn1] at hl1
  rw [hn2] at hl2
  rw [hn1, hn2] at h0
  rw [hn1, hn2]
  obtain ⟨s, hs⟩ : ∃ s, g.nodes[f].id = s := ⟨_, rfl⟩
  rw [hs]
  have HI0 : Hid (FarJ g s 0 0 (fun j => if j = f then 0 else -1)) := Lib.hid (by rw [← hs]; exact FarJ.start hw hf)
  have hsm : s ∈ idsOf g.nodes := by rw [← hs]; exact List.mem_map.2 ⟨_, List.getElem_mem hf, rfl⟩
  have hf2 : f < n1 := by omega
  have hfI : (f : Int) < n1 := by omega
  have hnI : (n1 : Int) ≤ 200 := by omega
  have hmI : (n2 : Int) ≤ 400 := by omega
  clear h1 h2 hn1 hn2 hs
  obtain ⟨CN, hCN, hCNb, hmkN⟩ := make_one (T := 27) (E := 2) (z := .int .i64 0) (by' := 8) Tryz.underlying27 (by kernel_rfl) rfl (by decide) n1 (by omega)
  go_enter Tryz.func55, Tryz.ntmps55
  have e1 : (w.alloc (.cells #[.slice a1 n1 c1, .slice a2 n2 c2] 36)).heap.size = w.heap.size + 1 := by simp
  have hW0 : FrW w ((w.alloc (.cells #[.slice a1 n1 c1, .slice a2 n2 c2] 36)).alloc (.cells CN 2)) (.slice a1 n1 c1) (.slice a2 n2 c2) n1 (fun _ => 0) :=
    ⟨((Below.refl _ w).alloc (Nat.le_refl _) _).alloc (by simp) _, cell_alloc (by rw [World.cell?_alloc_mark]; rfl) _, cell_alloc (by rw [World.cell?_alloc_mark]; rfl) _, fun j hj => by rw [← e1, World.cell?_alloc_mark]; exact hCNb j hj, fun o => by rw [← e1, World.frozen?_alloc_mark]; simp, by simp⟩
  go_upto_region 2 with fail
  generalize (w.alloc (.cells #[.slice a1 n1 c1, .slice a2 n2 c2] 36)).alloc (.cells CN 2) = W1 at hW0 ⊢
  clear e1
  go_wp2_with fail
  go_loopw [6] (fun iv wr => ∃ i : Nat, i ≤ n1 ∧ iv = .int .i64 i ∧ FrW w wr (.slice a1 n1 c1) (.slice a2 n2 c2) n1 (fun j => if j < i then -1 else 0)) (fun iv _ => n1 - (intOf iv).toNat)
  case atStart => exact ⟨0, by omega, rfl, by simpa using hW0⟩
  case round =>
    clear hW0
    obtain ⟨i, hi, rfl, F⟩ := hrel
    by_cases hlt : i < n1
    · have f0 : decide ((i : Int) < n1) = true := decide_eq_true (by omega)
      have f0' : decide (i < n1) = true := decide_eq_true hlt
      have hlt2 : (i : Int) < n1 := by omega
      have z1 := F.cell i hlt
      have z2 := F.fro i
      have F2 := F.put hlt (-1)
      rw [show (fun j => if j = i then (-1 : Int) else if j < i then -1 else 0) = (fun j => if j < i + 1 then -1 else 0) by funext j; by_cases e : j = i <;> by_cases e2 : j < i <;> by_cases e3 : j < i + 1 <;> simp [e, e2, e3] <;> omega] at F2
      go_wp2_with fail
      go_round
      case rel => exact ⟨i + 1, by omega, by go_num, F2⟩
      case measure => first | (simp [intOf]; done) | (simp [intOf]; omega)
    · have hi3 : i = n1 := by omega
      subst hi3
      have f0 : decide ((i : Int) < i) = false := decide_eq_false (by omega)
      have z1 := F.cell f hf2
      have z2 := F.fro f
      have F2 := F.put hf2 0
      have F3 := F2.congr (far' := fun j => if j = f then 0 else -1) (fun j hj => by by_cases e : j = f <;> simp [e, hj])
      go_upto_region 7 with fail
      clear F F2 z1 z2
      generalize wr.setCell ⟨w.heap.size + 1, f, none⟩ (.int .i64 0) = wS at F3 ⊢
      go_wp2_with fail
      go_loopw [7, 8, 9, 10, 11] (fun dv mv _ _ _ wr => ∃ (d : Nat) (more : Bool) (far : Nat → Int), dv = .int .i64 d ∧ mv = .bool more ∧ FrW w wr (.slice a1 i c1) (.slice a2 n2 c2) i far ∧ d ≤ i + 1 ∧ (more = true → FarJ g s d 0 far ∧ d ≤ i ∧ ∀ j, j < i → far j ≠ ((d + 1 : Nat) : Int)) ∧ (more = false → FarT g s far)) (fun dv _ _ _ _ _ => i + 2 - (intOf dv).toNat)
      case atStart => exact ⟨0, true, _, by first | rfl | go_num, rfl, F3, by omega, fun _ => ⟨HI0.out, by omega, fun j hj e => by by_cases q : j = f <;> simp [q] at e⟩, fun q => by cases q⟩
      case round =>
        clear F3 HI0
        obtain ⟨d, more, far, rfl, rfl, F, hd, hT, hA⟩ := hrel
        cases more with
        | false =>
          have HA := Lib.hid (hA rfl)
          clear hT hA
          go_wp2_with fail
          go_ret
          exact ⟨w.heap.size + 1, far, rfl, by omega, F.cell, HA.out, F.below⟩
        | true =>
          obtain ⟨hI, hd2, hno⟩ := hT rfl
          clear hT hA
          have hdI : (d : Int) ≤ 200 := by omega
          have hw1 : IntKind.i64.wrap ((d : Int) + 1) = (d : Int) + 1 := wrap64_of _ (by omega) (by omega)
          go_upto_region 11 with fail
          go_wp2_with fail
          go_loopw [8, 9, 10, 11] (fun mv av _ _ wr => ∃ (a : Nat) (more : Bool) (far : Nat → Int), a ≤ n2 ∧ av = .int .i64 a ∧ mv = .bool more ∧ FrW w wr (.slice a1 i c1) (.slice a2 n2 c2) i far ∧ FarJ g s d a far ∧ (more = true → ∃ (j : Nat) (hj : j < g.nodes.length), Fw g.edges s (d + 1) g.nodes[j].id) ∧ (more = false → ∀ j, j < i → far j ≠ ((d + 1 : Nat) : Int))) (fun _ av _ _ _ => n2 - (intOf av).toNat)
          case atStart => exact ⟨0, false, far, by omega, by first | rfl | go_num, rfl, F, hI, (fun q => by cases q), fun _ => hno⟩
          case round =>
            clear F hI hno
            obtain ⟨a, more, far, hai, rfl, rfl, F, hI, hmt, hmf⟩ := hrel
            by_cases hlta : a < n2
            · have g0 : decide ((a : Int) < n2) = true := decide_eq_true (by omega)
              have g0' : decide (a < n2) = true := decide_eq_true hlta
              have g0'' : (a : Int) < n2 := by omega
              have hag : a < g.edges.length := by rw [HN2.out]; exact hlta
              have rg := h0.within.below F.below
              have rg2 := rg
              obtain ⟨v1', v2', hu, hNd, hEd⟩ := rg2
              injection hu with hu
              have hu := Array.mk.inj hu
              simp only [List.cons.injEq, and_true] at hu
              obtain ⟨rfl, rfl⟩ := hu
              obtain ⟨hka, hkb⟩ := hw.ends a hag
              obtain ⟨p, hp, hp1, hp2⟩ := posN_get g.nodes g.edges[a].src 0 (thr_iff.2 hka)
              obtain ⟨q, hq, hq1, hq2⟩ := posN_get g.nodes g.edges[a].dst 0 (thr_iff.2 hkb)
              rw [Nat.zero_add] at hp1 hq1
              obtain ⟨bE, oE, l3, d3, rfl, -, ed0, ed1, ed2, ed3, ed4, -, -⟩ := REd.at hEd hag
              have hskip := fun z => hI.skip hw hag hp hq hp2 hq2 z
              have hput := fun z1 z2 => hI.put hw hag hp hq hp2 hq2 z1 z2
              obtain ⟨xs, hxs⟩ : ∃ x, g.edges[a].src = x := ⟨_, rfl⟩
              obtain ⟨xd, hxd⟩ : ∃ x, g.edges[a].dst = x := ⟨_, rfl⟩
              rw [hxs] at ed2 hp1
              rw [hxd] at ed3 hq1
              have hn1' : g.nodes.length = i := HN1.out
              rw [hn1'] at hp hq
              have hnA : ∀ (id : Int) (u : World), RNd u (fun b => S b ∧ b < w.heap.size) (.slice a1 i c1) g.nodes → Calls Tryz.prog 38 #[.agg #[.slice a1 i c1, .slice (some ⟨bE, oE, none⟩) n2 c2], .int .i64 id] u (IntB (posN g.nodes id 0) u) := fun id u r => by
                have := snodeAt_any u _ a1 (some ⟨bE, oE, none⟩) n2 c1 c2 g.nodes id (by rw [hn1']; exact r)
                rwa [hn1'] at this
              have HSK := Lib.hid hskip
              have HPU := Lib.hid hput
              have HP1 := Lib.hid hp1
              have HQ1 := Lib.hid hq1
              clear hskip hput ed0 ed1 ed4 hp2 hq2 hka hkb hEd hxs hxd hp1 hq1 hn1' hI rg
              have t0 := F.b0
              have t1 := F.b1
              go_upto_region 14 with fail
              clear t0 t1
              refine region_ext (by kernel_rfl) (by kernel_rfl) ?_
              have y0 := Ext.cell F.b0
              have y1 := Ext.cell F.b1
              have y2 := Ext.cell ed2
              repeat (go_big_quiet_step ((go_at_call 38; rename_i u; exact (hnA _ u.w (hNd.below ENd.kept u.below)).mono fun e w' h => ⟨h.1, ⟨w', u.below.trans (h.2.mono u.below.size)⟩, rfl⟩)))
              refine wpQuiet_nil ?_
              intro w2 hb2
              clear y0 y1 y2
              have F2 := F.step hb2
              have hNd2 := hNd.below ENd.kept hb2
              have ed3' := cell_kept (fun hl => hb2.block _ hl) ed3
              clear F hNd ed2 ed3 hb2
              go_upto_region 15 with fail
              refine region_ext (by kernel_rfl) (by kernel_rfl) ?_
              have y0 := Ext.cell F2.b0
              have y1 := Ext.cell F2.b1
              have y2 := Ext.cell ed3'
              repeat (go_big_quiet_step ((go_at_call 38; rename_i u; exact (hnA _ u.w (hNd2.below ENd.kept u.below)).mono fun e w' h => ⟨h.1, ⟨w', u.below.trans (h.2.mono u.below.size)⟩, rfl⟩)))
              refine wpQuiet_nil ?_
              intro w3 hb3
              clear y0 y1 y2
              have F3 := F2.step hb3
              clear F2 hNd2 ed3' hb3 hnA
              simp only [HP1.out, HQ1.out]
              have z3 := F3.cell p hp
              have z4 := F3.cell q hq
              have z5 := F3.fro q
              have F4 := F3.put hq ((d + 1 : Nat) : Int)
              have hpI : (p : Int) < i := by omega
              have hqI : (q : Int) < i := by omega
              obtain ⟨fa, hfae⟩ : ∃ x, far p = x := ⟨_, rfl⟩
              obtain ⟨fb, hfbe⟩ : ∃ x, far q = x := ⟨_, rfl⟩
              rw [hfae] at z3
              rw [hfbe] at z4
              have HFB := Lib.hid hfbe
              have HFA := Lib.hid hfae
              clear hfbe hfae
              by_cases hdb : fa = d
              · have m0 : decide (fa = (d : Int)) = true := decide_eq_true hdb
                have m0' : (fa == (d : Int)) = true := by rw [beq_iff_eq]; exact hdb
                by_cases hneg : fb < 0
                · have m1 : decide (fb < 0) = true := decide_eq_true hneg
                  obtain ⟨hI2, hbk⟩ := HPU.out (by rw [HFA.out]; exact hdb) (by rw [HFB.out]; exact hneg)
                  have HBK : Hid (∃ (j : Nat) (hj : j < g.nodes.length), Fw g.edges s (d + 1) g.nodes[j].id) := Lib.hid ⟨_, _, hbk⟩
                  clear hbk hmt hmf HSK HPU
                  go_wp2_with fail
                  go_round
                  case rel => exact ⟨a + 1, true, _, by omega, by first | rfl | go_num, rfl, F4, hI2, (fun _ => HBK.out), fun q => by cases q⟩
                  case measure => first | (simp [intOf]; done) | (simp [intOf]; omega)
                · have m1 : decide (fb < 0) = false := decide_eq_false hneg
                  have hI2 := HSK.out (fun _ => by rw [HFB.out]; omega)
                  clear F4 z5 HSK HPU
                  go_wp2_with fail
                  go_round
                  case rel => exact ⟨a + 1, more, far, by omega, by first | rfl | go_num, rfl, F3, hI2, hmt, hmf⟩
                  case measure => first | (simp [intOf]; done) | (simp [intOf]; omega)
              · have m0 : decide (fa = (d : Int)) = false := decide_eq_false hdb
                have m0' : (fa == (d : Int)) = false := by rw [beq_eq_false_iff_ne]; exact hdb
                have hI2 := HSK.out (fun q => by rw [HFA.out] at q; exact absurd q hdb)
                clear F4 z4 z5 HSK HPU
                go_wp2_with fail
                go_round
                case rel => exact ⟨a + 1, more, far, by omega, by first | rfl | go_num, rfl, F3, hI2, hmt, hmf⟩
                case measure => first | (simp [intOf]; done) | (simp [intOf]; omega)
            · have ha3 : n2 = a := by omega
              subst ha3
              have g0 : decide ((n2 : Int) < n2) = false := decide_eq_false (by omega)
              have q1 := F.b1
              have q0 := F.b0
              have hI2 := FarJ.round (by rw [HN2.out]; exact hI)
              have hend : more = true → d + 1 ≤ i := fun q => by
                obtain ⟨j, hj, hb⟩ := hmt q
                have := hb.bound hw hsm
                unfold idsOf at this
                rw [List.length_map, HN1.out] at this
                omega
              have hnx : ∀ j, j < i → far j ≠ ((d + 1 + 1 : Nat) : Int) := fun j hj e => by
                rcases hI.rng j (by rw [HN1.out]; exact hj) with e2 | ⟨k, hk, h2, _⟩
                · rw [e2] at e; omega
                · rw [h2] at e; omega
              have hall : more = false → FarT g s far := fun q => hI2.all hw hsm (fun j hj hb => hmf q j (by rw [← HN1.out]; exact hj) (hI2.old j hj (d + 1) (Nat.le_refl _) hb))
              clear hI hmt hmf
              go_wp2_with fail
              go_round
              case rel => exact ⟨d + 1, more, far, by first | rfl | go_num, rfl, F, by omega, (fun q => ⟨hI2, hend q, hnx⟩), hall⟩
              case measure => first | (simp [intOf]; done) | (simp [intOf]; omega)
end Go.Proofs.YtllhimeffkefiaaGreatDoor
/- The specification's FarFrom, whole. No condition on the graph. -/
set_option linter.unusedVariables false
set_option linter.unusedSimpArgs false
namespace Go.Proofs.YtllhimeffkefiaaGreatDoor
open Go.RowKit Go.Sort

/-- a row of pairs of numbers, of whatever named type -/
theorem own_rp2 {w : World} {base : Nat} {E : TypeId} {v : Value} {xs : List Pt} (h : w.ownsRow base E 2 v xs.length (xs.flatMap cP)) (hl : xs.length ≤ 9223372036854775807) : RPt w (fun b => base ≤ b) v xs ∧ Own 2 w base v xs.length := by
  rcases h.2 with ⟨rfl, hn⟩ | ⟨g, cap, cur, rfl, hb, hgg, hc, hm, hs, ht⟩
  · have : xs = [] := List.length_eq_zero_iff.1 hn
    subst this
    exact ⟨nilRow _ _ _ _, none, 0, rfl, .inl rfl⟩
  · have hat : ∀ i u, (xs.flatMap cP)[i]? = some u → w.cell? ⟨g, i, none⟩ = some u := fun i u hu => by
      have hi : i < xs.length * 2 := by rw [← cP_len]; exact (List.getElem?_eq_some_iff.1 hu).1
      have e : (cur.toList.take (xs.length * 2))[i]? = some u := by rw [ht]; exact hu
      rw [List.getElem?_take, if_pos hi] at e
      have := World.news_of_block hgg i _ e
      rw [Addr.add_lit] at this
      rw [show i = 0 + i by omega]
      exact this
    refine ⟨⟨_, cap, rfl, hl, fun k x hx => ?_⟩, _, cap, rfl, .inr ⟨g, rfl, hb, (Array.getElem?_eq_some_iff.1 hgg).1, fun i hi => ?_, fun i => h.frozenAt i⟩⟩
    · obtain ⟨h0, h1⟩ := cP_get xs k x hx
      refine ⟨g, 0, fun j => if j = 0 then .int .i64 x.node else .int .i64 x.num, rfl, hb, fun j hj => ?_, rfl, rfl⟩
      rcases (show j = 0 ∨ j = 1 by omega) with rfl | rfl
      · rw [show 0 + k * 2 + 0 = k * 2 by omega]; exact hat _ _ h0
      · rw [show 0 + k * 2 + 1 = k * 2 + 1 by omega]; exact hat _ _ h1
    · have hi2 : i < (xs.flatMap cP).length := by rw [cP_len]; exact hi
      exact ⟨_, hat i _ (List.getElem?_eq_getElem hi2)⟩
def FarR (g : Gr) (s : Int) (w : World) (e : Ending) (w' : World) : Prop := ∃ xs, FarX g s xs ∧ PtsR xs w e w'
set_option maxHeartbeats 4000000 in
set_option maxRecDepth 100000 in
theorem sfarfrom_any (w : World) (S0 : Nat → Prop) (v : Value) (g : Gr) (h : RGr w S0 v g) (s : Int) : Calls Tryz.prog 26 #[v, .int .i64 s] w (FarR g s w) := by
  have h0 := h.within
  obtain ⟨v1, v2, rfl, h1, h2⟩ := h
  obtain ⟨a1, c1, rfl⟩ := h1.shape
  obtain ⟨a2, c2, rfl⟩ := h2.shape
  obtain ⟨n1, hn1⟩ : ∃ n, g.nodes.length = n := ⟨_, rfl⟩
  obtain ⟨n2, hn2⟩ : ∃ n, g.edges.length = n := ⟨_, rfl⟩
  have HN1 := Lib.hid hn1
  rw [hn1, hn2] at h0
  rw [hn1, hn2]
  clear h1 h2 hn1 hn2
  have hbb := (Below.refl _ w).alloc (Nat.le_refl _) (.cells #[.slice a1 n1 c1, .slice a2 n2 c2] 36)
  have hba := hbb.alloc hbb.size (.cells #[] 107)
  have e1 : (w.alloc (.cells #[.slice a1 n1 c1, .slice a2 n2 c2] 36)).heap.size = w.heap.size + 1 := by simp
  have ho0 : ((w.alloc (.cells #[.slice a1 n1 c1, .slice a2 n2 c2] 36)).alloc (.cells #[] 107)).ownsRow (w.heap.size + 1) 107 2 (.slice (some ⟨w.heap.size + 1, 0, none⟩) 0 0) 0 [] := ⟨rfl, .inr ⟨w.heap.size + 1, 0, #[], rfl, Nat.le_refl _, by rw [← e1]; exact heap_alloc_new _ _, by simp, by unfold maxLen; simp, rfl, rfl⟩⟩
  have r1 := h0.below hba
  have x0 : ((w.alloc (.cells #[.slice a1 n1 c1, .slice a2 n2 c2] 36)).alloc (.cells #[] 107)).cell? ⟨w.heap.size, 0, none⟩ = some (.slice a1 n1 c1) := cell_alloc (by rw [World.cell?_alloc_mark]; rfl) _
  have x1 : ((w.alloc (.cells #[.slice a1 n1 c1, .slice a2 n2 c2] 36)).alloc (.cells #[] 107)).cell? ⟨w.heap.size, 1, none⟩ = some (.slice a2 n2 c2) := cell_alloc (by rw [World.cell?_alloc_mark]; rfl) _
  clear e1 hbb
  cases hg : gOk g with
  | false =>
    go_enter Tryz.func26, Tryz.ntmps26
    go_wp2_with (go_at_call 35; refine (fault_bad _ _ _ _ hg r1).mono ?_; rintro e w1 ⟨rfl, hb1⟩)
    go_ret
    exact ⟨[], ⟨(fun _ => rfl), (fun h => by rw [hg] at h; cases h)⟩, PtsR.nil _ _ _ _ (hba.trans (hb1.mono hba.size))⟩
  | true =>
    have hw := gw_of hg
    have hlen := (gOk_parts hg).1
    have hlen' : (n1 : Int) ≤ 200 := by have := HN1.out; omega
    obtain ⟨i0, hi0, hi0z, hi01, hi02⟩ := info_parts (show (Tryz.prog.info? 107).map (fun i => (i.zero, i.size, i.bytes)) = some (some (.agg #[.int .i64 0, .int .i64 0]), 2, 16) by kernel_rfl)
    have hnA : ∀ u : World, RGr u (fun b => S0 b ∧ b < w.heap.size) (.agg #[.slice a1 n1 c1, .slice a2 n2 c2]) g → Calls Tryz.prog 38 #[.agg #[.slice a1 n1 c1, .slice a2 n2 c2], .int .i64 s] u (IntB (posN g.nodes s 0) u) := fun u r => by
      obtain ⟨v1', v2', hu, hNd, _⟩ := r
      injection hu with hu
      have hu := Array.mk.inj hu
      simp only [List.cons.injEq, and_true] at hu
      obtain ⟨rfl, rfl⟩ := hu
      have hn1' : g.nodes.length = n1 := HN1.out
      have := snodeAt_any u _ a1 a2 n2 c1 c2 g.nodes s (by rw [hn1']; exact hNd)
      rwa [hn1'] at this
    by_cases hs : s ∈ idsOf g.nodes
    case neg =>
      have hth : thr g.nodes s = false := by
        cases q : thr g.nodes s with
        | false => rfl
        | true => exact absurd (thr_iff.1 q) hs
      have hp := posN_thr g.nodes s 0
      rw [hth] at hp
      generalize posN g.nodes s 0 = z at hp hnA
      have HN := Lib.hid hs
      clear hs hth
      simp only [Bool.not_false] at hp
      go_enter Tryz.func26, Tryz.ntmps26
      go_wp2_with (first
        | (go_at_call 35; refine (fault_good _ _ _ _ hg r1).mono ?_; rintro e w1 ⟨rfl, hb1⟩; have r2 := r1.below hb1; have y0 := cell_kept (fun hl => hb1.block _ hl) x0; have y1 := cell_kept (fun hl => hb1.block _ hl) x1)
        | (go_at_call 38; refine (hnA _ r2).mono ?_; rintro e w2 ⟨rfl, hb2⟩))
      go_ret
      exact ⟨[], ⟨(fun _ => rfl), (fun _ q => absurd q HN.out)⟩, PtsR.nil _ _ _ _ ((hba.trans (hb1.mono hba.size)).trans (hb2.mono (Nat.le_trans hba.size hb1.size)))⟩
    obtain ⟨p, hp, hp1, hp2⟩ := gOk_pos hw hs
    rw [hp1] at hnA
    have hfar := fun u r => sfar_any u (fun b => S0 b ∧ b < w.heap.size) (.agg #[.slice a1 n1 c1, .slice a2 n2 c2]) g r hw p hp
    have hX := fun far (q : FarT g s far) => rowF_x hg hs q
    rw [hp2] at hfar
    unfold FarRR at hfar
    rw [HN1.out] at hfar
    have HX := Lib.hid hX
    have pI : (p : Int) < n1 := by have := HN1.out; omega
    have p0 : decide ((p : Int) < 0) = false := decide_eq_false (by omega)
    clear hp1 hp2 hX
    go_enter Tryz.func26, Tryz.ntmps26
    go_upto_region 8 with (first
      | (go_at_call 35; refine (fault_good _ _ _ _ hg r1).mono ?_; rintro e w1 ⟨rfl, hb1⟩; have r2 := r1.below hb1; have y0 := cell_kept (fun hl => hb1.block _ hl) x0; have y1 := cell_kept (fun hl => hb1.block _ hl) x1)
      | (go_at_call 38; refine (hnA _ r2).mono ?_; rintro e w2 ⟨rfl, hb2⟩; have r3 := r2.below hb2; have z0 := cell_kept (fun hl => hb2.block _ hl) y0; have z1 := cell_kept (fun hl => hb2.block _ hl) y1)
      | (go_at_call 55; refine (hfar _ r3).mono ?_; rintro e W3 ⟨gF, far, rfl, hgF, hfc, hT, hb3⟩))
    have hb13 := hb1.trans ((hb2.trans (hb3.mono hb2.size)).mono hb1.size)
    have r4 := r1.below hb13
    have t0 := cell_kept (fun hl => hb13.block _ hl) x0
    have ho3 := own_kept ho0 (fun b _ hl => hb13.block b hl)
    have hbA := hba.trans (hb13.mono hba.size)
    have HF := Lib.hid (HX.out far hT)
    have HT := Lib.hid hT
    have hgW : gF < W3.heap.size ∨ n1 = 0 := by
      by_cases q : n1 = 0
      · exact .inr q
      · exact .inl (lt_of_cell (hfc 0 (by omega)))
    have hgF2 : w.heap.size + 2 ≤ gF := by
      have a := hb1.size
      have b := hb2.size
      simp at a
      omega
    clear hfar hnA hb1 hb2 hb3 hb13 r1 r2 r3 x0 x1 y0 y1 z0 z1 hT ho0 HX hba
    obtain ⟨bg, hbg⟩ : ∃ b, w.heap.size = b := ⟨_, rfl⟩
    rw [hbg] at t0 ho3 hgF2
    simp only [hbg]
    have HBG := Lib.hid hbg
    clear hbg
    go_wp2_with fail
    go_loopw [5, 8] (fun ov kv w9 => ∃ (k m : Nat) (L : List Pt), k ≤ n1 ∧ kv = .int .i64 k ∧ Kp W3 w9 (fun q => q = bg + 1) ∧ (∀ q, ov.ownBlock = some q → q = bg + 1 ∨ W3.heap.size ≤ q) ∧ w9.ownsRow (bg + 1) 107 2 ov m (L.flatMap cP) ∧ L.length = m ∧ m ≤ k ∧ L = rowF g.nodes far k) (fun _ kv _ => n1 - (intOf kv).toNat)
    case atStart => exact ⟨0, 0, [], by omega, by first | rfl | go_num, Kp.refl _ _, (fun q e => .inl (Option.some.inj e).symm), ho3, rfl, by omega, rfl⟩
    case round =>
      clear ho3
      obtain ⟨k, m, L, hk, rfl, hkp, hob, hown, hLm, hmk, hLe⟩ := hrel
      have qg := cell_kept (fun hl => hkp.block bg hl (by omega)) t0
      by_cases hltk : k < n1
      · have k0 : decide ((k : Int) < n1) = true := decide_eq_true (by omega)
        have k0' : decide (k < n1) = true := decide_eq_true hltk
        have k0'' : (k : Int) < n1 := by omega
        have hkg : k < g.nodes.length := by rw [HN1.out]; exact hltk
        have hRw : RGr wr _ (.agg #[.slice a1 n1 c1, .slice a2 n2 c2]) g := r4.kept (fun b hb hl => hkp.block b hl (by have := hb.2; have := HBG.out; omega))
        obtain ⟨v1', v2', hu, hNd, _⟩ := hRw
        injection hu with hu
        have hu := Array.mk.inj hu
        simp only [List.cons.injEq, and_true] at hu
        obtain ⟨rfl, rfl⟩ := hu
        have zf : wr.cell? ⟨gF, k, none⟩ = some (.int .i64 (far k)) := cell_kept (fun hl => hkp.block gF hl (by omega)) (hfc k hltk)
        have hsn := rowF_snoc g.nodes far k
        rw [getD_eq hkg] at hsn
        obtain ⟨b, o, pp1, d1, pp2, d2, rfl, hS0, hc, hcl, hcf, _, _⟩ := RNd.at hNd hkg
        obtain ⟨x, hx⟩ : ∃ x, g.nodes[k].id = x := ⟨_, rfl⟩
        rw [hx] at hc hsn
        have hfk : far k = -1 ∨ 0 ≤ far k := by
          rcases HT.out.2 k hkg with e | ⟨j, _, e⟩
          · exact .inl e
          · exact .inr (by omega)
        obtain ⟨f, hf⟩ : ∃ f, far k = f := ⟨_, rfl⟩
        rw [hf] at zf hsn hfk
        rw [← hLe] at hsn
        have HLE := Lib.hid hLe
        have HSN := Lib.hid hsn
        clear hx hf hcl hcf hNd hLe hsn
        by_cases hf0 : 0 ≤ f
        · have m0 : decide (0 ≤ f) = true := decide_eq_true hf0
          have hszr := hkp.size
          have hoD : wr.drew.ownsRow (bg + 1) 107 2 u5 m (L.flatMap cP) := hown
          have hbr : bg + 1 ≤ wr.heap.size := by have := hbA.size; have := HBG.out; omega
          have hkI : (m : Int) ≤ 200 := by omega
          have HSN2 : Hid (rowF g.nodes far (k + 1) = L ++ [(⟨x, f⟩ : Pt)]) := Lib.hid (by rw [HSN.out, if_pos hf0])
          have hLm2 : (L ++ [(⟨x, f⟩ : Pt)]).length = m + 1 := by rw [List.length_append, hLm]; rfl
          have HL2 := Lib.hid hLm2
          clear hLm2
          go_upto_region 12 with fail
          go_region_law (refine step_append_lies _ (by rfl) (.tmp 34) (.tmp 46) 54 (by rfl) (bg + 1) 107 i0 (.agg #[.int .i64 0, .int .i64 0]) 2 16 Tryz.underlying54 hi0 hi0z hi01 hi02 rfl (by decide) u5 m (L.flatMap cP) (by rfl) (hoD.alloc _) ⟨_, 0, none⟩ 1 1 [.int .i64 x, .int .i64 f] (by rfl) rfl (World.news_of_block (new_block (by simp) _ _)) (by intro u hu; simp at hu; rcases hu with rfl | rfl <;> rfl) (by decide) (by unfold maxLen; omega) (by omega) (by simp <;> omega) _ rfl ?_; intro g6 cap w6 hown6 hgrow6 hat6 hlt6; have hgrow6 : World.grownBy _ w6 u5.ownBlock := hgrow6)
          all_goals
            have hk6 : Kp W3 w6 (fun q => q = bg + 1) := hkp.then ((Kp.of_below ((below_drew wr).alloc (Nat.le_refl _) _) _).trans (Kp.of_grown hgrow6)) (fun q e => hob q e.symm)
            have hob6 : ∀ q, (Value.slice (some ⟨g6, 0, none⟩) (m + 1) cap).ownBlock = some q → q = bg + 1 ∨ W3.heap.size ≤ q := fun q e => by
              have e : g6 = q := Option.some.inj e
              subst e
              rcases hat6 with z | z
              · exact hob _ z
              · right
                rw [z]
                simp
                omega
            have hown7 : w6.ownsRow (bg + 1) 107 2 (.slice (some ⟨g6, 0, none⟩) (m + 1) cap) (m + 1) ((L ++ [(⟨x, f⟩ : Pt)]).flatMap cP) := by
              rw [List.flatMap_append]
              exact hown6
            go_wp2_with fail
            go_round
            case rel => exact ⟨k + 1, m + 1, L ++ [(⟨x, f⟩ : Pt)], by omega, by first | rfl | go_num, hk6, hob6, hown7, HL2.out, by omega, HSN2.out.symm⟩
            case measure => first | (simp [intOf]; done) | (simp [intOf]; omega)
        · have m0 : decide (0 ≤ f) = false := decide_eq_false hf0
          have HSN2 : Hid (rowF g.nodes far (k + 1) = L) := Lib.hid (by rw [HSN.out, if_neg hf0, List.append_nil])
          go_wp2_with fail
          go_round
          case rel => exact ⟨k + 1, m, L, by omega, by first | rfl | go_num, hkp, hob, hown, hLm, by omega, HSN2.out.symm⟩
          case measure => first | (simp [intOf]; done) | (simp [intOf]; omega)
      · have hk3 : k = n1 := by omega
        have k0 : decide ((k : Int) < n1) = false := decide_eq_false (by omega)
        have k0' : decide (k < n1) = false := decide_eq_false (by omega)
        have k0'' : ¬ (k : Int) < n1 := by omega
        have hFX : FarX g s L := by rw [hLe, hk3, ← HN1.out]; exact HF.out
        rw [← hLm] at hown
        obtain ⟨s1, s2⟩ := own_rp2 hown (by omega)
        have HS1 := Lib.hid s1
        have HS2 := Lib.hid s2
        have HFX := Lib.hid hFX
        clear hown hk3 hLe hFX s1 s2 hLm
        go_wp2_with fail
        go_ret
        have hbZ : Below w.heap.size w wr := ⟨hkp.os.trans hbA.os, hkp.tape.trans hbA.tape, hkp.output.trans hbA.output, Nat.le_trans hbA.size hkp.size, fun b hb => by
          rw [HBG.out] at hb
          exact (hkp.block b (by have := hbA.size; have := HBG.out; omega) (by omega)).trans (hbA.block b (by rw [HBG.out]; exact hb))⟩
        exact ⟨_, HFX.out, _, rfl, HS1.out.mono EPt.mono (fun b hb => by rw [HBG.out]; omega), Own.low HS2.out (by rw [HBG.out]; omega), hbZ⟩
end Go.Proofs.YtllhimeffkefiaaGreatDoor
