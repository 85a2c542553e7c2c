/- Texts of one proof, joined in their order: each bears its own word of what it holds and on what condition. -/
import Derived.Test.YtllhimeffkefiaaGreatDoorMWd
import Derived.Test.YtllhimeffkefiaaGreatDoorMUi
import Derived.Test.YtllhimeffkefiaaGreatDoorMWh
set_option linter.unusedVariables false
set_option linter.unusedSimpArgs false
/- The first of the shortest circles, plain. No walk here. -/
set_option linter.unusedVariables false
set_option linter.unusedSimpArgs false
namespace Go.Proofs.YtllhimeffkefiaaGreatDoor

/-- an edge between nodes that are not less than s -/
def Rz (es : List Ed) (s a b : Int) : Prop := Arc es a b ∧ s ≤ a ∧ s ≤ b
/-- from u one comes to s by k edges and no fewer -/
def Bk (es : List Ed) (s : Int) (k : Nat) (u : Int) : Prop := Dst (fun a b => Rz es s b a) s k u
theorem Bk.same {es : List Ed} {s u : Int} {k j : Nat} (h : Bk es s k u) (q : Bk es s j u) : k = j := Dst.same h q
theorem bk_zero (es : List Ed) (s u : Int) : Bk es s 0 u ↔ u = s := dst_zero _ s u
/-- as many nodes as the shortest circle through s has, of those whose least node is s -/
def CMin (es : List Ed) (s : Int) (n : Nat) : Prop := (∃ u d, Rz es s s u ∧ Bk es s d u ∧ n = d + 1) ∧ ∀ u d, Rz es s s u → Bk es s d u → n ≤ d + 1
theorem CMin.same {es : List Ed} {s : Int} {n m : Nat} (h : CMin es s n) (k : CMin es s m) : n = m := by
  obtain ⟨⟨u, d, h1, h2, rfl⟩, h4⟩ := h
  obtain ⟨⟨u', d', k1, k2, rfl⟩, k4⟩ := k
  have := h4 u' d' k1 k2
  have := k4 u d h1 h2
  omega
/-- the next node: the least one that is one edge nearer -/
def Stp (es : List Ed) (s last : Int) (left : Nat) (u : Int) : Prop := Rz es s last u ∧ Bk es s left u ∧ ∀ u', Rz es s last u' → Bk es s left u' → u ≤ u'
theorem Stp.same {es : List Ed} {s last u v : Int} {left : Nat} (h : Stp es s last left u) (k : Stp es s last left v) : u = v := by
  have := h.2.2 v k.1 k.2.1
  have := k.2.2 u h.1 h.2.1
  omega
/-- the circle while it is laid: so many edges are left, L lies, its last is told -/
inductive Chn (es : List Ed) (s : Int) (n : Nat) : Nat → List Int → Int → Prop
  | start : Chn es s n (n - 1) [s] s
  | step {left : Nat} {L : List Int} {x u : Int} : Chn es s n (left + 1) L x → Stp es s x (left + 1) u → Chn es s n left (L ++ [u]) u
theorem Chn.len {es : List Ed} {s : Int} {n left : Nat} {L : List Int} {x : Int} (h : Chn es s n left L x) (hn : 0 < n) : L.length + left = n := by
  induction h with
  | start => simp; omega
  | step _ _ ih => rw [List.length_append]; simp; omega
theorem Chn.le {es : List Ed} {s : Int} {n left : Nat} {L : List Int} {x : Int} (h : Chn es s n left L x) : left ≤ n - 1 := by
  induction h with
  | start => exact Nat.le_refl _
  | step _ _ ih => omega
theorem Chn.last {es : List Ed} {s : Int} {n left : Nat} {L : List Int} {x : Int} (h : Chn es s n left L x) : ∃ L', L = L' ++ [x] := by
  cases h with
  | start => exact ⟨[], rfl⟩
  | step _ _ => exact ⟨_, rfl⟩
theorem Chn.same {es : List Ed} {s : Int} {n : Nat} : ∀ {left : Nat} {L L' : List Int} {x x' : Int}, Chn es s n left L x → Chn es s n left L' x' → L = L' ∧ x = x' := by
  intro left L L' x x' h
  induction h generalizing L' x' with
  | start =>
    intro k
    generalize hq : n - 1 = q at k
    cases k with
    | start => exact ⟨rfl, rfl⟩
    | step k _ => have := k.le; omega
  | step h hs ih =>
    intro k
    cases k with
    | start => have := h.le; omega
    | step k ks =>
      obtain ⟨e1, e2⟩ := ih k
      subst e1
      subst e2
      have := hs.same ks
      subst this
      exact ⟨rfl, rfl⟩
/-- where one is on the way there is a next node -/
theorem Chn.at {es : List Ed} {s : Int} {n left : Nat} {L : List Int} {x : Int} (h : Chn es s n left L x) (hm : CMin es s n) : ∃ u, Rz es s x u ∧ Bk es s left u := by
  cases h with
  | start =>
    obtain ⟨⟨u, d, h1, h2, rfl⟩, _⟩ := hm
    exact ⟨u, h1, by rw [Nat.add_sub_cancel]; exact h2⟩
  | step _ hs =>
    obtain ⟨v, hv, hr⟩ := Dst.prev hs.2.1
    exact ⟨v, hr, hv⟩
/-- the circle of which s is the least node -/
def Cyc (es : List Ed) (s : Int) (L : List Int) : Prop := ∃ n x, CMin es s n ∧ Chn es s n 0 L x
theorem Cyc.same {es : List Ed} {s : Int} {L L' : List Int} (h : Cyc es s L) (k : Cyc es s L') : L = L' := by
  obtain ⟨n, x, h1, h2⟩ := h
  obtain ⟨m, y, k1, k2⟩ := k
  have := h1.same k1
  subst this
  exact (h2.same k2).1
theorem Cyc.pos {es : List Ed} {s : Int} {L : List Int} (h : Cyc es s L) : 0 < L.length := by
  obtain ⟨n, x, h1, h2⟩ := h
  obtain ⟨⟨u, d, _, _, rfl⟩, _⟩ := h1
  have := h2.len (by omega)
  omega
/-- the first of the shortest, among the nodes ahead of place i -/
def Best (g : Gr) (i : Nat) (L : List Int) : Prop :=
  (L = [] ∧ ∀ (j : Nat) (hj : j < g.nodes.length), j < i → ∀ L', ¬ Cyc g.edges g.nodes[j].id L') ∨
  ∃ (j : Nat) (hj : j < g.nodes.length), j < i ∧ Cyc g.edges g.nodes[j].id L ∧ ∀ (k : Nat) (hk : k < g.nodes.length), k < i → ∀ L', Cyc g.edges g.nodes[k].id L' → L.length ≤ L'.length ∧ (k < j → L.length < L'.length)
theorem Best.none (g : Gr) : Best g 0 [] := .inl ⟨rfl, fun j _ h => by omega⟩
theorem Best.same {g : Gr} {i : Nat} {L L' : List Int} (h : Best g i L) (k : Best g i L') : L = L' := by
  rcases h with ⟨rfl, h⟩ | ⟨j, hj, h1, h2, h3⟩
  · rcases k with ⟨rfl, _⟩ | ⟨j', hj', k1, k2, _⟩
    · rfl
    · exact absurd k2 (h j' hj' k1 _)
  · rcases k with ⟨rfl, k⟩ | ⟨j', hj', k1, k2, k3⟩
    · exact absurd h2 (k j hj h1 _)
    · have a := h3 j' hj' k1 _ k2
      have b := k3 j hj h1 _ h2
      have : j = j' := by
        rcases Nat.lt_trichotomy j j' with z | z | z
        · have := b.2 z; omega
        · exact z
        · have := a.2 z; omega
      subst this
      exact h2.same k2
theorem Best.skip {g : Gr} {i : Nat} {L : List Int} (h : Best g i L) (hi : i < g.nodes.length) (hn : ∀ L', Cyc g.edges g.nodes[i].id L' → 0 < L.length ∧ L.length ≤ L'.length) : Best g (i + 1) L := by
  rcases h with ⟨rfl, h⟩ | ⟨j, hj, h1, h2, h3⟩
  · refine .inl ⟨rfl, fun j hj hlt L' q => ?_⟩
    by_cases e : j = i
    · subst e; have := (hn L' q).1; simp at this
    · exact h j hj (by omega) L' q
  · refine .inr ⟨j, hj, by omega, h2, fun k hk hlt L' q => ?_⟩
    by_cases e : k = i
    · subst e; exact ⟨(hn L' q).2, fun z => by omega⟩
    · exact h3 k hk (by omega) L' q
theorem Best.take {g : Gr} {i : Nat} {L L2 : List Int} (h : Best g i L) (hi : i < g.nodes.length) (hc : Cyc g.edges g.nodes[i].id L2) (hl : L = [] ∨ L2.length < L.length) : Best g (i + 1) L2 := by
  refine .inr ⟨i, hi, by omega, hc, fun k hk hlt L' q => ?_⟩
  by_cases e : k = i
  · subst e; rw [hc.same q]; exact ⟨Nat.le_refl _, fun z => by omega⟩
  · rcases h with ⟨rfl, h⟩ | ⟨j, hj, h1, h2, h3⟩
    · exact absurd q (h k hk (by omega) L')
    · have := h3 k hk (by omega) L' q
      rcases hl with rfl | hl
      · have := h2.pos; simp at this
      · exact ⟨by omega, fun _ => by omega⟩
def CircX (g : Gr) (xs : List Int) : Prop := (gOk g = false → xs = []) ∧ (gOk g = true → Best g g.nodes.length xs)
theorem CircX.same {g : Gr} {xs ys : List Int} (h : CircX g xs) (k : CircX g ys) : xs = ys := by
  cases hg : gOk g with
  | false => rw [h.1 hg, k.1 hg]
  | true => exact (h.2 hg).same (k.2 hg)
/-- distances stay below the number of nodes -/
theorem Bk.bound {g : Gr} (h : Gw g) {s u : Int} {k : Nat} (hs : s ∈ idsOf g.nodes) (q : Bk g.edges s k u) : k + 1 ≤ (idsOf g.nodes).length := Dst.bound hs (fun a b r => (arc_in h r.1).1) q
theorem CMin.le {g : Gr} (h : Gw g) {s : Int} {n : Nat} (hs : s ∈ idsOf g.nodes) (q : CMin g.edges s n) : n ≤ (idsOf g.nodes).length := by
  obtain ⟨⟨u, d, _, h2, rfl⟩, _⟩ := q
  exact h2.bound h hs
theorem Cyc.le {g : Gr} (h : Gw g) {s : Int} {L : List Int} (hs : s ∈ idsOf g.nodes) (q : Cyc g.edges s L) : L.length ≤ (idsOf g.nodes).length := by
  obtain ⟨n, x, h1, h2⟩ := q
  have := h1.le h hs
  have hn : 0 < n := by obtain ⟨⟨u, d, _, _, rfl⟩, _⟩ := h1; omega
  have := h2.len hn
  omega
theorem CircX.len {g : Gr} {xs : List Int} (h : CircX g xs) : xs.length ≤ 400 := by
  cases hg : gOk g with
  | false => rw [h.1 hg]; simp
  | true =>
    have hw := gw_of hg
    rcases h.2 hg with ⟨rfl, _⟩ | ⟨j, hj, _, q, _⟩
    · simp
    · have := q.le hw (List.mem_map.2 ⟨_, List.getElem_mem hj, rfl⟩)
      have h2 := hw.n
      unfold idsOf at this
      rw [List.length_map] at this
      omega
/-- a row in which all edges go on leaves no circle -/
theorem no_circle {es : List Ed} (rank : Int → Nat) (hr : ∀ a b, Arc es a b → rank a < rank b) (s : Int) (L : List Int) : ¬ Cyc es s L := by
  rintro ⟨n, x, ⟨⟨u, d, h1, h2, _⟩, _⟩, _⟩
  have key : ∀ (k : Nat) (v : Int), Wlk (fun a b => Rz es s b a) s k v → rank v ≤ rank s := by
    intro k
    induction k with
    | zero => intro v e; rw [show v = s from e]; exact Nat.le_refl _
    | succ k ih =>
      rintro v ⟨t, ht, hv⟩
      have := ih t ht
      have := hr _ _ hv.1
      omega
  have := key d u h2.1
  have := hr _ _ h1.1
  omega
end Go.Proofs.YtllhimeffkefiaaGreatDoor
/- impl's graph of the nodes from an Id on. Condition: fewer than 2^20 elements in each row. -/
set_option linter.unusedVariables false
set_option linter.unusedSimpArgs false
namespace Go.Proofs.YtllhimeffkefiaaGreatDoor
open Go.RowKit Go.Sort

theorem rep_node {w : World} {S : Nat → Prop} (x : Nd) {a1 a2 : Option Addr} {c1 c2 : Nat} (h1 : RStr w S (.slice a1 x.labels.length c1) x.labels) (h2 : RFld w S (.slice a2 x.fields.length c2) x.fields) : Rep 3 ENd w S [.int .i64 x.id, .slice a1 x.labels.length c1, .slice a2 x.fields.length c2] [x] :=
  ⟨rfl, fun k y hy => by
    have hk := (List.getElem?_eq_some_iff.1 hy).1
    obtain rfl : k = 0 := by simp at hk; omega
    simp at hy
    subst hy
    refine ⟨fun q => ([.int .i64 x.id, .slice a1 x.labels.length c1, .slice a2 x.fields.length c2] : List Value).getD q undef, fun q hq => ?_, rfl, h1, h2⟩
    rcases (show q = 0 ∨ q = 1 ∨ q = 2 by omega) with rfl | rfl | rfl <;> rfl⟩
theorem rep_edgeF {w : World} {S : Nat → Prop} (e : Ed) {a : Option Addr} {c : Nat} (hf : RFld w S (.slice a e.fields.length c) e.fields) (hz : Sz e.type) : Rep 5 EEd w S [.int .i64 e.id, .string e.type, .int .i64 e.src, .int .i64 e.dst, .slice a e.fields.length c] [e] :=
  ⟨rfl, fun k x hx => by
    have hk := (List.getElem?_eq_some_iff.1 hx).1
    obtain rfl : k = 0 := by simp at hk; omega
    simp at hx
    subst hx
    refine ⟨fun q => ([.int .i64 e.id, .string e.type, .int .i64 e.src, .int .i64 e.dst, .slice a e.fields.length c] : List Value).getD q undef, fun q hq => ?_, rfl, rfl, rfl, rfl, hf, hz⟩
    rcases (show q = 0 ∨ q = 1 ∨ q = 2 ∨ q = 3 ∨ q = 4 by omega) with rfl | rfl | rfl | rfl | rfl <;> rfl⟩
theorem rep_nil {α : Type} (sz : Nat) (E : Elem α) (w : World) (S : Nat → Prop) : Rep sz E w S [] [] := ⟨by simp, fun k x hx => by simp at hx⟩
def frN (ns : List Nd) (s : Int) : List Nd := ns.filter fun x => decide (s ≤ x.id)
def frE (es : List Ed) (s : Int) : List Ed := es.filter fun e => decide (s ≤ e.src) && decide (s ≤ e.dst)
theorem frN_snoc {ns : List Nd} {s : Int} {j : Nat} (hj : j < ns.length) : frN (ns.take (j + 1)) s = frN (ns.take j) s ++ (if s ≤ ns[j].id then [ns[j]] else []) := by
  unfold frN
  rw [take_snoc' _ j hj, List.filter_append, List.filter_cons]
  by_cases h : s ≤ ns[j].id <;> simp [h]
theorem frE_snoc {es : List Ed} {s : Int} {j : Nat} (hj : j < es.length) : frE (es.take (j + 1)) s = frE (es.take j) s ++ (if s ≤ es[j].src ∧ s ≤ es[j].dst then [es[j]] else []) := by
  unfold frE
  rw [take_snoc' _ j hj, List.filter_append, List.filter_cons]
  by_cases h : s ≤ es[j].src <;> by_cases h2 : s ≤ es[j].dst <;> simp [h, h2]
/-- the box of the graph that is built; its rows -/
structure Frg (W1 W : World) (bx : Nat) (nv ev : Value) (S : Nat → Prop) (ns : List Nd) (es : List Ed) : Prop where
  below : Below bx W1 W
  box : Bx W bx nv ev
  n : ∃ news, W.ownsRow (bx + 1) 74 3 nv ns.length news ∧ Rep 3 ENd W1 S news ns
  e : ∃ news, W.ownsRow (bx + 1) 122 5 ev es.length news ∧ Rep 5 EEd W1 S news es
  sep : ∀ q, nv.ownBlock = some q → ev.ownBlock ≠ some q
theorem Frg.step {W1 W W' : World} {bx : Nat} {nv ev : Value} {S : Nat → Prop} {ns : List Nd} {es : List Ed} (h : Frg W1 W bx nv ev S ns es) (hb : Below W.heap.size W W') : Frg W1 W' bx nv ev S ns es := by
  obtain ⟨n1, h1, h2⟩ := h.n
  obtain ⟨n2, k1, k2⟩ := h.e
  exact ⟨h.below.trans (hb.mono (Nat.le_of_lt h.box.lt)), h.box.block (hb.block bx h.box.lt), ⟨n1, own_kept h1 (fun b _ hl => hb.block b hl), h2⟩, ⟨n2, own_kept k1 (fun b _ hl => hb.block b hl), k2⟩, h.sep⟩
theorem own_keptD {w w' : World} {base : Nat} {e : TypeId} {sz : Nat} {v : Value} {n : Nat} {xs : List Value} (h : w.ownsRow base e sz v n xs) (hk : ∀ q, v.ownBlock = some q → w'.heap[q]? = w.heap[q]?) : w'.ownsRow base e sz v n xs := by
  refine ⟨h.1, ?_⟩
  rcases h.2 with hn | ⟨g, cap, cur, he, hb, hgg, rest⟩
  · exact .inl hn
  · exact .inr ⟨g, cap, cur, he, hb, (hk g (by rw [he]; rfl)).trans hgg, rest⟩
theorem Frg.appN {W1 W W2 w6 : World} {bx : Nat} {nv ev : Value} {S : Nat → Prop} {ns : List Nd} {es : List Ed} (h : Frg W1 W bx nv ev S ns es) (hb : Below W.heap.size W W2) {news us : List Value} {x : Nd} {g c : Nat} (hrep : Rep 3 ENd W1 S news ns) (hus : Rep 3 ENd W1 S us [x]) (hrow : W.ownsRow (bx + 1) 74 3 nv ns.length news)
    (hown : w6.ownsRow (bx + 1) 74 3 (.slice (some ⟨g, 0, none⟩) (ns.length + 1) c) (ns.length + 1) (news ++ us)) (hg : W2.grownBy w6 nv.ownBlock) (hat : nv.ownBlock = some g ∨ g = W2.heap.size) :
    Frg W1 (w6.setCell ⟨bx, 0, none⟩ (.slice (some ⟨g, 0, none⟩) (ns.length + 1) c)) bx (.slice (some ⟨g, 0, none⟩) (ns.length + 1) c) ev S (ns ++ [x]) es := by
  have h2 := h.step hb
  have hk6 : ∀ b, b < W2.heap.size → nv.ownBlock ≠ some b → w6.heap[b]? = W2.heap[b]? := fun b hb2 hn => hg.block b hb2 (fun e => hn e.symm)
  have hlo : ∀ q, nv.ownBlock = some q → bx + 1 ≤ q := fun q e => (hrow.lt q e).1
  have hbx := h2.box.block (hk6 bx h2.box.lt (fun e => by have := hlo bx e; omega))
  obtain ⟨n2, k1, k2⟩ := h2.e
  have hsep6 : ∀ q, ev.ownBlock = some q → w6.heap[q]? = W2.heap[q]? := fun q e => hk6 q (k1.lt q e).2 (fun e2 => h.sep q e2 e)
  refine ⟨⟨hg.os.trans h2.below.os, hg.tape.trans h2.below.tape, hg.output.trans h2.below.output, by simp [World.setCell]; exact Nat.le_trans h2.below.size hg.size, fun b hb2 => (Below.heap_setCell _ _ _ _ (by show b ≠ bx; omega)).trans ((hk6 b (Nat.lt_trans hb2 h2.box.lt) (fun e => by have := hlo b e; omega)).trans (h2.below.block b hb2))⟩,
    ⟨World.cell?_setCell_same _ _ _ hbx.1, (World.cell?_setCell_other _ _ _ _ (by simp)).trans hbx.2.1, (World.frozen?_setCell _ _ _ _).trans hbx.2.2.1, (World.frozen?_setCell _ _ _ _).trans hbx.2.2.2⟩, ⟨news ++ us, ?_, hrep.append hus⟩, ⟨n2, own_keptD k1 (fun q e => (Below.heap_setCell _ _ _ _ (by show q ≠ bx; have := (k1.lt q e).1; omega)).trans (hsep6 q e)), k2⟩, fun q e e2 => ?_⟩
  · rw [List.length_append]
    exact own_kept hown (fun b hb2 hl => Below.heap_setCell _ _ _ _ (by show b ≠ bx; omega))
  · have e : g = q := Option.some.inj e
    subst e
    rcases hat with z | z
    · exact h.sep _ z e2
    · have := (k1.lt _ e2).2; omega
theorem Frg.appE {W1 W W2 w6 : World} {bx : Nat} {nv ev : Value} {S : Nat → Prop} {ns : List Nd} {es : List Ed} (h : Frg W1 W bx nv ev S ns es) (hb : Below W.heap.size W W2) {news us : List Value} {x : Ed} {g c : Nat} (hrep : Rep 5 EEd W1 S news es) (hus : Rep 5 EEd W1 S us [x]) (hrow : W.ownsRow (bx + 1) 122 5 ev es.length news)
    (hown : w6.ownsRow (bx + 1) 122 5 (.slice (some ⟨g, 0, none⟩) (es.length + 1) c) (es.length + 1) (news ++ us)) (hg : W2.grownBy w6 ev.ownBlock) (hat : ev.ownBlock = some g ∨ g = W2.heap.size) :
    Frg W1 (w6.setCell ⟨bx, 1, none⟩ (.slice (some ⟨g, 0, none⟩) (es.length + 1) c)) bx nv (.slice (some ⟨g, 0, none⟩) (es.length + 1) c) S ns (es ++ [x]) := by
  have h2 := h.step hb
  have hk6 : ∀ b, b < W2.heap.size → ev.ownBlock ≠ some b → w6.heap[b]? = W2.heap[b]? := fun b hb2 hn => hg.block b hb2 (fun e => hn e.symm)
  have hlo : ∀ q, ev.ownBlock = some q → bx + 1 ≤ q := fun q e => (hrow.lt q e).1
  have hbx := h2.box.block (hk6 bx h2.box.lt (fun e => by have := hlo bx e; omega))
  obtain ⟨n2, k1, k2⟩ := h2.n
  have hsep6 : ∀ q, nv.ownBlock = some q → w6.heap[q]? = W2.heap[q]? := fun q e => hk6 q (k1.lt q e).2 (fun e2 => h.sep q e e2)
  refine ⟨⟨hg.os.trans h2.below.os, hg.tape.trans h2.below.tape, hg.output.trans h2.below.output, by simp [World.setCell]; exact Nat.le_trans h2.below.size hg.size, fun b hb2 => (Below.heap_setCell _ _ _ _ (by show b ≠ bx; omega)).trans ((hk6 b (Nat.lt_trans hb2 h2.box.lt) (fun e => by have := hlo b e; omega)).trans (h2.below.block b hb2))⟩,
    ⟨(World.cell?_setCell_other _ _ _ _ (by simp)).trans hbx.1, World.cell?_setCell_same _ _ _ hbx.2.1, (World.frozen?_setCell _ _ _ _).trans hbx.2.2.1, (World.frozen?_setCell _ _ _ _).trans hbx.2.2.2⟩, ⟨n2, own_keptD k1 (fun q e => (Below.heap_setCell _ _ _ _ (by show q ≠ bx; have := (k1.lt q e).1; omega)).trans (hsep6 q e)), k2⟩, ⟨news ++ us, ?_, hrep.append hus⟩, fun q e e2 => ?_⟩
  · rw [List.length_append]
    exact own_kept hown (fun b hb2 hl => Below.heap_setCell _ _ _ _ (by show b ≠ bx; omega))
  · have e2 : g = q := Option.some.inj e2
    subst e2
    rcases hat with z | z
    · exact h.sep _ e z
    · have := (k1.lt _ e).2; omega
theorem row_of {α : Type} {sz : Nat} {E : Elem α} (hE : E.Mono) {W : World} {B : Nat} {e : TypeId} {a : Option Addr} {c : Nat} {news : List Value} {xs : List α} {S S' : Nat → Prop} (hrow : W.ownsRow B e sz (.slice a xs.length c) xs.length news) (hrep : Rep sz E W S news xs) (hl : xs.length ≤ 1000) (hB : ∀ b, B ≤ b → S' b) (hS : ∀ b, S b → S' b) : Row sz E W S' (.slice a xs.length c) xs := by
  rcases Nat.eq_zero_or_pos xs.length with q | q
  · exact ⟨a, c, rfl, by omega, fun k x hx => by have := (List.getElem?_eq_some_iff.1 hx).1; omega⟩
  · obtain ⟨g, c', hv, h1, _, hat, _⟩ := own_at hrow q
    injection hv with q1 _ q3
    subst q1
    exact (hrep.mono hE hS).row hat (hB g h1) (by omega)
def FromR (g : Gr) (s : Int) (S : Nat → Prop) (w : World) (e : Ending) (w' : World) : Prop := ∃ v, e = .returned v ∧ RGr w' (fun b => S b ∨ w.heap.size ≤ b) v ⟨frN g.nodes s, frE g.edges s⟩ ∧ Below w.heap.size w w'
set_option maxHeartbeats 4000000 in
set_option maxRecDepth 100000 in
theorem from_any (w : World) (S : Nat → Prop) (v : Value) (g : Gr) (h : RGr w S v g) (hS : ∀ b, S b → b < w.heap.size) (hl1 : g.nodes.length ≤ 200) (hl2 : g.edges.length ≤ 400) (s : Int) :
    Calls Tryz.prog 50 #[v, .int .i64 s] w (FromR g s S w) := by
  obtain ⟨v1, v2, rfl, h1, h2⟩ := h
  obtain ⟨a1, c1, rfl⟩ := h1.shape
  obtain ⟨a2, c2, rfl⟩ := h2.shape
  obtain ⟨n1, hn1⟩ : ∃ n, g.nodes.length = n := ⟨_, rfl⟩
  obtain ⟨n2, hn2⟩ : ∃ n, g.edges.length = n := ⟨_, rfl⟩
  have HN1 := Lib.hid hn1
  have HN2 := Lib.hid hn2
  rw [hn1] at h1 hl1
  rw [hn2] at h2 hl2
  rw [hn1, hn2]
  have h1I : (n1 : Int) ≤ 200 := by omega
  have h2I : (n2 : Int) ≤ 400 := by omega
  clear hn1 hn2
  go_enter Tryz.func50, Tryz.ntmps50
  go_upto_region 2 with fail
  have e1 : (w.alloc (.cells #[.slice a1 n1 c1, .slice a2 n2 c2] 36)).heap.size = w.heap.size + 1 := by simp
  have e2 : ((w.alloc (.cells #[.slice a1 n1 c1, .slice a2 n2 c2] 36)).alloc (.cells #[.slice none 0 0, .slice none 0 0] 36)).heap.size = w.heap.size + 1 + 1 := by simp
  have x0 : (((w.alloc (.cells #[.slice a1 n1 c1, .slice a2 n2 c2] 36)).alloc (.cells #[.slice none 0 0, .slice none 0 0] 36)).alloc (.cells #[.slice none 0 0, .slice none 0 0] 36)).cell? ⟨w.heap.size, 0, none⟩ = some (.slice a1 n1 c1) := cell_alloc (cell_alloc (by rw [World.cell?_alloc_mark]; rfl) _) _
  have x1 : (((w.alloc (.cells #[.slice a1 n1 c1, .slice a2 n2 c2] 36)).alloc (.cells #[.slice none 0 0, .slice none 0 0] 36)).alloc (.cells #[.slice none 0 0, .slice none 0 0] 36)).cell? ⟨w.heap.size, 1, none⟩ = some (.slice a2 n2 c2) := cell_alloc (cell_alloc (by rw [World.cell?_alloc_mark]; rfl) _) _
  have hBr : Bx (((w.alloc (.cells #[.slice a1 n1 c1, .slice a2 n2 c2] 36)).alloc (.cells #[.slice none 0 0, .slice none 0 0] 36)).alloc (.cells #[.slice none 0 0, .slice none 0 0] 36)) (w.heap.size + 1) (.slice none 0 0) (.slice none 0 0) := by
    have h := bx_new (w.alloc (.cells #[.slice a1 n1 c1, .slice a2 n2 c2] 36)) (.slice none 0 0) (.slice none 0 0) 36
    rw [e1] at h
    exact h.block (((Below.refl _ _).alloc (Nat.le_refl _) _).block _ h.lt)
  have hBo : Bx (((w.alloc (.cells #[.slice a1 n1 c1, .slice a2 n2 c2] 36)).alloc (.cells #[.slice none 0 0, .slice none 0 0] 36)).alloc (.cells #[.slice none 0 0, .slice none 0 0] 36)) (w.heap.size + 1 + 1) (.slice none 0 0) (.slice none 0 0) := by
    rw [← e2]; exact bx_new _ _ _ _
  have hbW : Below w.heap.size w (((w.alloc (.cells #[.slice a1 n1 c1, .slice a2 n2 c2] 36)).alloc (.cells #[.slice none 0 0, .slice none 0 0] 36)).alloc (.cells #[.slice none 0 0, .slice none 0 0] 36)) := (((Below.refl _ w).alloc (Nat.le_refl _) _).alloc (by simp) _).alloc (by simp <;> omega) _
  clear e1 e2
  generalize ((w.alloc (.cells #[.slice a1 n1 c1, .slice a2 n2 c2] 36)).alloc (.cells #[.slice none 0 0, .slice none 0 0] 36)).alloc (.cells #[.slice none 0 0, .slice none 0 0] 36) = W1 at x0 x1 hBr hBo hbW ⊢
  have g1 := h1.below ENd.kept hbW
  have g2 := h2.below EEd.kept hbW
  obtain ⟨bg, hbg⟩ : ∃ b, w.heap.size = b := ⟨_, rfl⟩
  rw [hbg] at x0 x1 hBr hBo
  simp only [hbg]
  have HBG := Lib.hid hbg
  have hSb : ∀ b, S b → b < bg := fun b hb => by rw [← hbg]; exact hS b hb
  obtain ⟨br, hbr⟩ : ∃ b, bg + 1 = b := ⟨_, rfl⟩
  obtain ⟨bx, hbx⟩ : ∃ b, br + 1 = b := ⟨_, rfl⟩
  simp only [hbr, hbx]
  rw [hbr] at hBr hBo
  rw [hbx] at hBo
  have hF0 : Frg W1 W1 bx (.slice none 0 0) (.slice none 0 0) S [] [] := ⟨Below.refl _ _, hBo, ⟨[], World.ownsRow_nil _ _ _ _, rep_nil _ _ _ _⟩, ⟨[], World.ownsRow_nil _ _ _ _, rep_nil _ _ _ _⟩, fun q e => by cases e⟩
  have hlg : bg < bx := by omega
  have hlr : br < bx := by omega
  have hgr : bg < br := by omega
  clear h1 h2 hbg hbr hbx hBo
  obtain ⟨i0, hi0, hi0z, hi01, hi02⟩ := info_parts (show (Tryz.prog.info? 74).map (fun i => (i.zero, i.size, i.bytes)) = some (some (.agg #[.int .i64 0, .slice none 0 0, .slice none 0 0]), 3, 56) by kernel_rfl)
  go_upto_region 3 with fail
  go_loopw [14] (fun iv wr => ∃ (j : Nat) (nv : Value), j ≤ n1 ∧ iv = .int .i64 j ∧ Frg W1 wr bx nv (.slice none 0 0) S (frN (g.nodes.take j) s) []) (fun iv _ => n1 - (intOf iv).toNat)
  case atStart => exact ⟨0, _, by omega, rfl, hF0⟩
  case round =>
    clear hF0
    obtain ⟨j, nv, hj, rfl, F⟩ := hrel
    have hbx1 : bx < wr.heap.size := F.box.lt
    have hSk : ∀ b, S b → b < W1.heap.size → wr.heap[b]? = W1.heap[b]? := fun b hb hl => F.below.block b (by have := hSb b hb; omega)
    by_cases hlt : j < n1
    · have f0 : decide ((j : Int) < n1) = true := decide_eq_true (by omega)
      have f0' : decide (j < n1) = true := decide_eq_true hlt
      have hlt2 : (j : Int) < n1 := by omega
      have hjN : j < g.nodes.length := by rw [HN1.out]; exact hlt
      obtain ⟨b, o, l1, d1, l2, d2, rfl, hS0, hc', hcl', hcf', hL1, hL2⟩ := RNd.at g1 hjN
      have hc := cell_kept (hSk b hS0) hc'
      have hcl := cell_kept (hSk b hS0) hcl'
      have hcf := cell_kept (hSk b hS0) hcf'
      have hT := frN_snoc (s := s) hjN
      have hRep := rep_node g.nodes[j] hL1 hL2
      clear hc' hcl' hcf' hL1 hL2
      generalize g.nodes[j] = nd at hc hcl hcf hT hRep
      obtain ⟨xi, xls, xfs⟩ := nd
      simp only at hc hcl hcf hT hRep
      obtain ⟨xl, hxl⟩ : ∃ q, xls.length = q := ⟨_, rfl⟩
      obtain ⟨xf, hxf⟩ : ∃ q, xfs.length = q := ⟨_, rfl⟩
      rw [hxl] at hcl hRep
      rw [hxf] at hcf hRep
      have hPl : (frN (g.nodes.take j) s).length ≤ j := Nat.le_trans (List.length_filter_le _ _) (by rw [List.length_take]; omega)
      generalize frN (g.nodes.take j) s = P at F hT hPl
      obtain ⟨news, hrow0, -⟩ := F.n
      obtain ⟨u1, u3, rfl⟩ : ∃ a c, nv = .slice a P.length c := by
        rcases hrow0.2 with ⟨q, hn⟩ | ⟨g', cap, cur, q, _⟩
        · rw [hn]; exact ⟨_, _, q⟩
        · exact ⟨_, _, q⟩
      clear hrow0 news hxl hxf
      go_upto_region 5 with fail
      have hbA := (Below.refl _ wr).alloc (Nat.le_refl _) (.cells #[.int .i64 xi, .slice l1 xl d1, .slice l2 xf d2] 74)
      have F2 := F.step hbA
      have y0 : (wr.alloc (.cells #[.int .i64 xi, .slice l1 xl d1, .slice l2 xf d2] 74)).cell? ⟨wr.heap.size, 0, none⟩ = some (.int .i64 xi) := by rw [World.cell?_alloc_mark]; rfl
      have y1 : (wr.alloc (.cells #[.int .i64 xi, .slice l1 xl d1, .slice l2 xf d2] 74)).cell? ⟨wr.heap.size, 1, none⟩ = some (.slice l1 xl d1) := by rw [World.cell?_alloc_mark]; rfl
      have y2 : (wr.alloc (.cells #[.int .i64 xi, .slice l1 xl d1, .slice l2 xf d2] 74)).cell? ⟨wr.heap.size, 2, none⟩ = some (.slice l2 xf d2) := by rw [World.cell?_alloc_mark]; rfl
      clear hc hcl hcf F hbA hSk
      generalize wr.alloc (.cells #[.int .i64 xi, .slice l1 xl d1, .slice l2 xf d2] 74) = W2 at F2 y0 y1 y2 ⊢
      by_cases hge : s ≤ xi
      · have m0 : decide (s ≤ xi) = true := decide_eq_true hge
        rw [if_pos hge] at hT
        have HT := Lib.hid hT
        obtain ⟨news, hrow, hrep⟩ := F2.n
        have q0 := F2.box.1
        have hbz := F2.box.lt
        have hbB := (Below.refl _ W2).alloc (Nat.le_refl _) (.cells #[.int .i64 xi, .slice l1 xl d1, .slice l2 xf d2] 74)
        have hPI : P.length ≤ 200 := by omega
        clear hge hT
        go_wp2_with (at_builtin; refine wpList_append_lies _ rfl (.tmp 23) (.tmp 25) 33 rfl (bx + 1) 74 i0 (.agg #[.int .i64 0, .slice none 0 0, .slice none 0 0]) 3 56 Tryz.underlying33 hi0 hi0z hi01 hi02 rfl (by decide) _ P.length news rfl (hrow.alloc _) ⟨_, 0, none⟩ 1 1 [.int .i64 xi, .slice l1 xl d1, .slice l2 xf d2] rfl rfl (World.news_of_block (new_block (by simp) _ _)) (by intro u hu; simp at hu; rcases hu with rfl | rfl | rfl <;> rfl) (by decide) (by unfold maxLen; omega) (by omega) (by simp; omega) _ rfl ?_; intro gg cap w6 hown6 hgrow6 hat6 hlt6; have hgrow6 : World.grownBy _ w6 (Value.slice u1 P.length u3).ownBlock := hgrow6; have hbx6 : Bx w6 bx (.slice u1 P.length u3) (.slice none 0 0) := (F2.step hbB).box.block (hgrow6.block bx (F2.step hbB).box.lt (fun e => by have := (hrow.lt bx e.symm).1; omega)); have t1 := hbx6.1; have t2 := hbx6.2.2.1)
        have F6 := F2.appN hbB hrep hRep hrow hown6 hgrow6 hat6
        go_round
        case rel => exact ⟨j + 1, _, by omega, by go_num, by rw [HT.out]; exact F6⟩
        case measure => first | (simp [intOf]; done) | (simp [intOf]; omega)
      · have m0 : decide (s ≤ xi) = false := decide_eq_false hge
        rw [if_neg hge, List.append_nil] at hT
        have HT := Lib.hid hT
        clear hge hT
        go_wp2_with fail
        go_round
        case rel => exact ⟨j + 1, _, by omega, by go_num, by rw [HT.out]; exact F2⟩
        case measure => first | (simp [intOf]; done) | (simp [intOf]; omega)
    · have hj3 : j = n1 := by omega
      subst hj3
      have f0 : decide ((j : Int) < j) = false := decide_eq_false (by omega)
      rw [List.take_of_length_le (by rw [HN1.out]; omega)] at F
      have q1 := cell_kept (fun hl => F.below.block bg hlg) x1
      obtain ⟨k0, hk0, hk0z, hk01, hk02⟩ := info_parts (show (Tryz.prog.info? 122).map (fun i => (i.zero, i.size, i.bytes)) = some (some (.agg #[.int .i64 0, .string ⟨#[]⟩, .int .i64 0, .int .i64 0, .slice none 0 0]), 5, 64) by kernel_rfl)
      obtain ⟨NS, hNS⟩ : ∃ l, frN g.nodes s = l := ⟨_, rfl⟩
      rw [hNS] at F
      have HNS := Lib.hid hNS.symm
      clear hNS
      clear hSk
      go_upto_region 8 with fail
      go_wp2_with fail
      go_loopw [32] (fun iv wr => ∃ (j : Nat) (ev : Value), j ≤ n2 ∧ iv = .int .i64 j ∧ Frg W1 wr bx nv ev S NS (frE (g.edges.take j) s)) (fun iv _ => n2 - (intOf iv).toNat)
      case atStart => exact ⟨0, _, by omega, rfl, F⟩
      case round =>
        clear F f0 hlt
        obtain ⟨j, ev, hj, rfl, F⟩ := hrel
        have hbx1 : bx < wr.heap.size := F.box.lt
        have hSk : ∀ b, S b → b < W1.heap.size → wr.heap[b]? = W1.heap[b]? := fun b hb hl => F.below.block b (by have := hSb b hb; omega)
        by_cases hlt : j < n2
        · have f0 : decide ((j : Int) < n2) = true := decide_eq_true (by omega)
          have f0' : decide (j < n2) = true := decide_eq_true hlt
          have hlt2 : (j : Int) < n2 := by omega
          have hjE : j < g.edges.length := by rw [HN2.out]; exact hlt
          obtain ⟨b, o, l3, d3, rfl, hS0, e0', e1', e2', e3', e4', hL1, hz1⟩ := REd.at g2 hjE
          have e0 := cell_kept (hSk b hS0) e0'
          have e1 := cell_kept (hSk b hS0) e1'
          have e2 := cell_kept (hSk b hS0) e2'
          have e3 := cell_kept (hSk b hS0) e3'
          have e4 := cell_kept (hSk b hS0) e4'
          have hT := frE_snoc (s := s) hjE
          have hRep := rep_edgeF g.edges[j] hL1 hz1
          clear e0' e1' e2' e3' e4' hL1 hz1
          generalize g.edges[j] = ed at e0 e1 e2 e3 e4 hT hRep
          obtain ⟨yi, yt, ys, yd, yf⟩ := ed
          simp only at e0 e1 e2 e3 e4 hT hRep
          obtain ⟨yl, hyl⟩ : ∃ q, yf.length = q := ⟨_, rfl⟩
          rw [hyl] at e4 hRep
          have hPl : (frE (g.edges.take j) s).length ≤ j := Nat.le_trans (List.length_filter_le _ _) (by rw [List.length_take]; omega)
          generalize frE (g.edges.take j) s = P at F hT hPl
          obtain ⟨news, hrow0, -⟩ := F.e
          obtain ⟨u1, u3, rfl⟩ : ∃ a c, ev = .slice a P.length c := by
            rcases hrow0.2 with ⟨q, hn⟩ | ⟨g', cap, cur, q, _⟩
            · rw [hn]; exact ⟨_, _, q⟩
            · exact ⟨_, _, q⟩
          clear hrow0 news hyl
          go_upto_region 11 with fail
          have hbA := (Below.refl _ wr).alloc (Nat.le_refl _) (.cells #[.int .i64 yi, .string yt, .int .i64 ys, .int .i64 yd, .slice l3 yl d3] 122)
          have F2 := F.step hbA
          have y0 : (wr.alloc (.cells #[.int .i64 yi, .string yt, .int .i64 ys, .int .i64 yd, .slice l3 yl d3] 122)).cell? ⟨wr.heap.size, 0, none⟩ = some (.int .i64 yi) := by rw [World.cell?_alloc_mark]; rfl
          have y1 : (wr.alloc (.cells #[.int .i64 yi, .string yt, .int .i64 ys, .int .i64 yd, .slice l3 yl d3] 122)).cell? ⟨wr.heap.size, 1, none⟩ = some (.string yt) := by rw [World.cell?_alloc_mark]; rfl
          have y2 : (wr.alloc (.cells #[.int .i64 yi, .string yt, .int .i64 ys, .int .i64 yd, .slice l3 yl d3] 122)).cell? ⟨wr.heap.size, 2, none⟩ = some (.int .i64 ys) := by rw [World.cell?_alloc_mark]; rfl
          have y3 : (wr.alloc (.cells #[.int .i64 yi, .string yt, .int .i64 ys, .int .i64 yd, .slice l3 yl d3] 122)).cell? ⟨wr.heap.size, 3, none⟩ = some (.int .i64 yd) := by rw [World.cell?_alloc_mark]; rfl
          have y4 : (wr.alloc (.cells #[.int .i64 yi, .string yt, .int .i64 ys, .int .i64 yd, .slice l3 yl d3] 122)).cell? ⟨wr.heap.size, 4, none⟩ = some (.slice l3 yl d3) := by rw [World.cell?_alloc_mark]; rfl
          clear e0 e1 e2 e3 e4 F hbA hSk
          generalize wr.alloc (.cells #[.int .i64 yi, .string yt, .int .i64 ys, .int .i64 yd, .slice l3 yl d3] 122) = W2 at F2 y0 y1 y2 y3 y4 ⊢
          by_cases hge : s ≤ ys
          · have m0 : decide (s ≤ ys) = true := decide_eq_true hge
            by_cases hge2 : s ≤ yd
            · have m1 : decide (s ≤ yd) = true := decide_eq_true hge2
              rw [if_pos ⟨hge, hge2⟩] at hT
              have HT := Lib.hid hT
              obtain ⟨news, hrow, hrep⟩ := F2.e
              have q0 := F2.box.2.1
              have hbz := F2.box.lt
              have hbB := (Below.refl _ W2).alloc (Nat.le_refl _) (.cells #[.int .i64 yi, .string yt, .int .i64 ys, .int .i64 yd, .slice l3 yl d3] 122)
              have hPI : P.length ≤ 400 := by omega
              clear hge hge2 hT
              go_wp2_with (at_builtin; refine wpList_append_lies _ rfl (.tmp 47) (.tmp 49) 34 rfl (bx + 1) 122 k0 (.agg #[.int .i64 0, .string ⟨#[]⟩, .int .i64 0, .int .i64 0, .slice none 0 0]) 5 64 Tryz.underlying34 hk0 hk0z hk01 hk02 rfl (by decide) _ P.length news rfl (hrow.alloc _) ⟨_, 0, none⟩ 1 1 [.int .i64 yi, .string yt, .int .i64 ys, .int .i64 yd, .slice l3 yl d3] rfl rfl (World.news_of_block (new_block (by simp) _ _)) (by intro u hu; simp at hu; rcases hu with rfl | rfl | rfl | rfl | rfl <;> rfl) (by decide) (by unfold maxLen; omega) (by omega) (by simp; omega) _ rfl ?_; intro gg cap w6 hown6 hgrow6 hat6 hlt6; have hgrow6 : World.grownBy _ w6 (Value.slice u1 P.length u3).ownBlock := hgrow6; have hbx6 : Bx w6 bx nv (.slice u1 P.length u3) := (F2.step hbB).box.block (hgrow6.block bx (F2.step hbB).box.lt (fun e => by have := (hrow.lt bx e.symm).1; omega)); have t1 := hbx6.2.1; have t2 := hbx6.2.2.2)
              have F6 := F2.appE hbB hrep hRep hrow hown6 hgrow6 hat6
              go_round
              case rel => exact ⟨j + 1, _, by omega, by go_num, by rw [HT.out]; exact F6⟩
              case measure => first | (simp [intOf]; done) | (simp [intOf]; omega)
            · have m1 : decide (s ≤ yd) = false := decide_eq_false hge2
              rw [if_neg (fun q => hge2 q.2), List.append_nil] at hT
              have HT := Lib.hid hT
              clear hge hge2 hT
              go_wp2_with fail
              go_round
              case rel => exact ⟨j + 1, _, by omega, by go_num, by rw [HT.out]; exact F2⟩
              case measure => first | (simp [intOf]; done) | (simp [intOf]; omega)
          · have m0 : decide (s ≤ ys) = false := decide_eq_false hge
            rw [if_neg (fun q => hge q.1), List.append_nil] at hT
            have HT := Lib.hid hT
            clear hge hT
            go_wp2_with fail
            go_round
            case rel => exact ⟨j + 1, _, by omega, by go_num, by rw [HT.out]; exact F2⟩
            case measure => first | (simp [intOf]; done) | (simp [intOf]; omega)
        · have hj3 : j = n2 := by omega
          subst hj3
          have f0 : decide ((j : Int) < j) = false := decide_eq_false (by omega)
          rw [List.take_of_length_le (by rw [HN2.out]; omega)] at F
          have q0 := F.box.1
          have q2 := F.box.2.1
          have hBr2 := hBr.block (F.below.block br hlr)
          have b0 := hBr2.1
          have b1 := hBr2.2.1
          have b2 := hBr2.2.2.1
          have b3 := hBr2.2.2.2
          obtain ⟨nN, hN1, hN2⟩ := F.n
          obtain ⟨nE, hE1, hE2⟩ := F.e
          obtain ⟨u1, u3, rfl⟩ : ∃ a c, nv = .slice a NS.length c := by
            rcases hN1.2 with ⟨q, hn⟩ | ⟨g', cap, cur, q, _⟩
            · rw [hn]; exact ⟨_, _, q⟩
            · exact ⟨_, _, q⟩
          obtain ⟨v1, v3, rfl⟩ : ∃ a c, ev = .slice a (frE g.edges s).length c := by
            rcases hE1.2 with ⟨q, hn⟩ | ⟨g', cap, cur, q, _⟩
            · rw [hn]; exact ⟨_, _, q⟩
            · exact ⟨_, _, q⟩
          have hNl : NS.length ≤ 1000 := by rw [HNS.out]; exact Nat.le_trans (List.length_filter_le _ _) (by rw [HN1.out]; omega)
          have hEl : (frE g.edges s).length ≤ 1000 := Nat.le_trans (List.length_filter_le _ _) (by rw [HN2.out]; omega)
          have d1 : (wr.setCell ⟨br, 0, none⟩ (.slice u1 NS.length u3)).cell? ⟨br, 1, none⟩ = some (.slice none 0 0) := (World.cell?_setCell_other _ _ _ _ (by simp)).trans b1
          have d3 : (wr.setCell ⟨br, 0, none⟩ (.slice u1 NS.length u3)).frozen? ⟨br, 1, none⟩ = false := (World.frozen?_setCell _ _ _ _).trans b3
          have s0 : ((wr.setCell ⟨br, 0, none⟩ (.slice u1 NS.length u3)).setCell ⟨br, 1, none⟩ (.slice v1 (frE g.edges s).length v3)).cell? ⟨br, 0, none⟩ = some (.slice u1 NS.length u3) := (World.cell?_setCell_other _ _ _ _ (by simp)).trans (World.cell?_setCell_same _ _ _ b0)
          have s1 : ((wr.setCell ⟨br, 0, none⟩ (.slice u1 NS.length u3)).setCell ⟨br, 1, none⟩ (.slice v1 (frE g.edges s).length v3)).cell? ⟨br, 1, none⟩ = some (.slice v1 (frE g.edges s).length v3) := World.cell?_setCell_same _ _ _ d1
          have hkf : ∀ b, b ≠ br → ((wr.setCell ⟨br, 0, none⟩ (.slice u1 NS.length u3)).setCell ⟨br, 1, none⟩ (.slice v1 (frE g.edges s).length v3)).heap[b]? = wr.heap[b]? := fun b hb => (Below.heap_setCell _ _ _ _ (by show b ≠ br; exact hb)).trans (Below.heap_setCell _ _ _ _ (by show b ≠ br; exact hb))
          have hsf : ((wr.setCell ⟨br, 0, none⟩ (.slice u1 NS.length u3)).setCell ⟨br, 1, none⟩ (.slice v1 (frE g.edges s).length v3)).heap.size = wr.heap.size := by simp [World.setCell]
          have hBf : Below w.heap.size w ((wr.setCell ⟨br, 0, none⟩ (.slice u1 NS.length u3)).setCell ⟨br, 1, none⟩ (.slice v1 (frE g.edges s).length v3)) := ⟨F.below.os.trans hbW.os, F.below.tape.trans hbW.tape, F.below.output.trans hbW.output, by rw [hsf]; exact Nat.le_trans hbW.size F.below.size, fun b hb => by
            rw [HBG.out] at hb
            exact (hkf b (by omega)).trans ((F.below.block b (by omega)).trans (hbW.block b (by rw [HBG.out]; exact hb)))⟩
          have hRf : RGr ((wr.setCell ⟨br, 0, none⟩ (.slice u1 NS.length u3)).setCell ⟨br, 1, none⟩ (.slice v1 (frE g.edges s).length v3)) (fun b => S b ∨ w.heap.size ≤ b) (.agg #[.slice u1 NS.length u3, .slice v1 (frE g.edges s).length v3]) ⟨NS, frE g.edges s⟩ := by
            refine ⟨_, _, rfl, row_of ENd.mono (own_keptD hN1 (fun q e => hkf q (by have := (hN1.lt q e).1; omega))) (hN2.keptS ENd.kept (fun b hb hl => (hkf b (by have := hSb b hb; omega)).trans (F.below.block b (by have := hSb b hb; omega)))) hNl (fun b hb => .inr (by rw [HBG.out]; omega)) (fun b hb => .inl hb), row_of EEd.mono (own_keptD hE1 (fun q e => hkf q (by have := (hE1.lt q e).1; omega))) (hE2.keptS EEd.kept (fun b hb hl => (hkf b (by have := hSb b hb; omega)).trans (F.below.block b (by have := hSb b hb; omega)))) hEl (fun b hb => .inr (by rw [HBG.out]; omega)) (fun b hb => .inl hb)⟩

          go_wp2_with fail
          exact bodyPost_ret (v := .agg #[.slice u1 NS.length u3, .slice v1 (frE g.edges s).length v3]) (by simp [results, Tryz.results50, go_sem, s0, s1]) rfl ⟨_, rfl, by rw [← HNS.out]; exact hRf, hBf⟩
end Go.Proofs.YtllhimeffkefiaaGreatDoor
/- Plain: taking nodes away that nothing waits for; the graph from an Id on; sizes and next nodes over rows. No walk here. -/
set_option linter.unusedVariables false
set_option linter.unusedSimpArgs false
namespace Go.Proofs.YtllhimeffkefiaaGreatDoor

/-! ### how many edges to v come from nodes that are not out -/
def wt (es : List Ed) (out : List Int) (v : Int) : Nat := es.countP fun e => decide (e.dst = v) && !decide (e.src ∈ out)
def wtF (es : List Ed) (out : List Int) (v : Int) : Int := (wt es out v : Int)
def wtJ (es : List Ed) (out l : List Int) (v : Int) : Int := (wt es out v : Int) - (l.count v : Int)
def goneF (out : List Int) (v : Int) : Int := if v ∈ out then 1 else 0
theorem wt_le (es : List Ed) (out : List Int) (v : Int) : wt es out v ≤ es.length := List.countP_le_length
theorem wt_nil : wtF [] [] = fun _ => 0 := by funext v; rfl
theorem wt_snoc {es : List Ed} {j : Nat} (hj : j < es.length) : upd (wtF (es.take j) []) es[j].dst (wtF (es.take j) [] es[j].dst + 1) = wtF (es.take (j + 1)) [] := by
  funext v
  unfold upd wtF wt
  rw [take_snoc' _ j hj, List.countP_append, List.countP_singleton]
  by_cases h : v = es[j].dst
  · subst h; simp
  · rw [if_neg h]
    have : ¬ es[j].dst = v := fun e => h e.symm
    simp [this]
theorem wtJ_nil (es : List Ed) (out : List Int) : wtF es out = wtJ es out [] := by funext v; unfold wtF wtJ; simp
theorem wtJ_snoc {es : List Ed} {out l : List Int} {j : Nat} (hj : j < l.length) : upd (wtJ es out (l.take j)) l[j] (wtJ es out (l.take j) l[j] - 1) = wtJ es out (l.take (j + 1)) := by
  funext v
  unfold upd wtJ
  rw [take_snoc' _ j hj, List.count_append]
  by_cases h : v = l[j]
  · subst h; rw [if_pos rfl, List.count_singleton_self]; omega
  · rw [if_neg h, List.count_singleton]
    have : ¬ (l[j] == v) = true := by rw [beq_iff_eq]; exact fun e => h e.symm
    simp [this]
theorem wt_out : ∀ (es : List Ed) (out : List Int) (x v : Int), x ∉ out → wt es out v = wt es (out ++ [x]) v + (ends es false x).count v
  | [], out, x, v, h => by simp [wt, ends]
  | e :: es, out, x, v, h => by
    have ih := wt_out es out x v h
    have hs : ends (e :: es) false x = (if e.src = x then [e.dst] else []) ++ ends es false x := by
      unfold ends
      rw [List.filterMap_cons]
      unfold endOf
      by_cases q : e.src = x <;> simp [q]
    rw [hs, List.count_append]
    unfold wt at ih ⊢
    rw [List.countP_cons, List.countP_cons, ih]
    by_cases q : e.src = x
    · subst q
      by_cases r : e.dst = v
      · subst r; simp [h]; omega
      · have r2 : ¬ (e.dst == v) = true := by rw [beq_iff_eq]; exact r
        simp [h, r, List.count_singleton]
    · by_cases r : e.dst = v
      · subst r; simp [q]; omega
      · simp [q, r]
theorem wtJ_done {es : List Ed} {out : List Int} {x : Int} (h : x ∉ out) : wtJ es out (ends es false x) = wtF es (out ++ [x]) := by
  funext v
  have := wt_out es out x v h
  unfold wtJ wtF
  omega
theorem gone_nil : goneF [] = fun _ => 0 := by funext v; simp [goneF]
theorem gone_snoc (out : List Int) (x : Int) : upd (goneF out) x 1 = goneF (out ++ [x]) := by
  funext v
  unfold upd goneF
  by_cases h : v = x
  · subst h; simp
  · simp [h]
theorem gone_zero {out : List Int} {x : Int} (h : goneF out x = 0) : x ∉ out := fun q => by unfold goneF at h; rw [if_pos q] at h; cases h
theorem wt_zero {es : List Ed} {out : List Int} {x a : Int} (h : wtF es out x = 0) (q : Arc es a x) : a ∈ out := by
  obtain ⟨e, he, rfl, rfl⟩ := q
  unfold wtF wt at h
  have h0 : es.countP (fun f => decide (f.dst = e.dst) && !decide (f.src ∈ out)) = 0 := by omega
  rw [List.countP_eq_zero] at h0
  have := h0 e he
  simpa using this
/-- what is out, each ahead of those that it leads to -/
structure Srt (g : Gr) (out : List Int) (k : Nat) : Prop where
  len : out.length = k
  nd : out.Nodup
  sub : ∀ x ∈ out, x ∈ idsOf g.nodes
  ord : ∀ a b, Arc g.edges a b → b ∈ out → a ∈ out ∧ out.idxOf a < out.idxOf b
theorem Srt.start (g : Gr) : Srt g [] 0 := ⟨rfl, List.nodup_nil, by simp, by simp⟩
theorem Srt.step {g : Gr} {out : List Int} {k : Nat} (h : Srt g out k) {x : Int} (hx : x ∈ idsOf g.nodes) (h0 : goneF out x = 0) (h1 : wtF g.edges out x = 0) : Srt g (out ++ [x]) (k + 1) := by
  have hn := gone_zero h0
  refine ⟨by rw [List.length_append, h.len]; rfl, ?_, fun y hy => ?_, fun a b q hb => ?_⟩
  · rw [List.nodup_append]
    exact ⟨h.nd, by simp, fun a ha b hb e => by rw [List.mem_singleton] at hb; subst hb; subst e; exact hn ha⟩
  · rw [List.mem_append, List.mem_singleton] at hy
    rcases hy with hy | rfl
    · exact h.sub y hy
    · exact hx
  · rw [List.mem_append, List.mem_singleton] at hb
    by_cases hbo : b ∈ out
    · obtain ⟨r1, r2⟩ := h.ord a b q hbo
      exact ⟨List.mem_append_left _ r1, by rw [List.idxOf_append, List.idxOf_append, if_pos r1, if_pos hbo]; exact r2⟩
    · have hb : b = x := by rcases hb with hb | hb; exact absurd hb hbo; exact hb
      subst hb
      have ha := wt_zero h1 q
      refine ⟨List.mem_append_left _ ha, ?_⟩
      rw [List.idxOf_append, List.idxOf_append, if_pos ha, if_neg hbo]
      have := List.idxOf_lt_length_of_mem ha
      omega
theorem Srt.all {g : Gr} {out : List Int} (h : Srt g out g.nodes.length) (hw : Gw g) (s : Int) (L : List Int) : ¬ Cyc g.edges s L := by
  refine no_circle (fun x => out.idxOf x) (fun a b q => (h.ord a b q ?_).2) s L
  have hb := (arc_in hw q).2
  by_cases q : b ∈ out
  · exact q
  · have := nodup_le (b :: out) (idsOf g.nodes) (List.nodup_cons.2 ⟨q, h.nd⟩) (fun x hx => by
      rcases List.mem_cons.1 hx with rfl | hx
      · exact hb
      · exact h.sub x hx)
    rw [List.length_cons, h.len] at this
    unfold idsOf at this
    rw [List.length_map] at this
    omega

/-! ### the graph from an Id on -/
theorem arc_from {es : List Ed} {s a b : Int} : Arc (frE es s) a b ↔ Rz es s a b := by
  unfold Arc Rz Arc frE
  constructor
  · rintro ⟨e, he, rfl, rfl⟩
    rw [List.mem_filter] at he
    have := he.2
    simp at this
    exact ⟨⟨e, he.1, rfl, rfl⟩, this.1, this.2⟩
  · rintro ⟨⟨e, he, rfl, rfl⟩, h1, h2⟩
    exact ⟨e, List.mem_filter.2 ⟨he, by simp [h1, h2]⟩, rfl, rfl⟩
theorem arcd_from_true (es : List Ed) (s : Int) : Arcd (frE es s) true = fun a b => Rz es s b a := by
  rw [arcd_true]
  funext a b
  exact propext arc_from
theorem mem_ends_from {es : List Ed} {s x y : Int} : y ∈ ends (frE es s) false x ↔ Rz es s x y := by
  rw [mem_ends, arcd_false]
  exact arc_from
theorem in_from {ns : List Nd} {s x : Int} (h : x ∈ idsOf ns) (hx : s ≤ x) : x ∈ idsOf (frN ns s) := by
  obtain ⟨n, hn, rfl⟩ := List.mem_map.1 h
  exact List.mem_map.2 ⟨n, List.mem_filter.2 ⟨hn, by simpa using hx⟩, rfl⟩
theorem from_in {ns : List Nd} {s x : Int} (h : x ∈ idsOf (frN ns s)) : x ∈ idsOf ns := by
  obtain ⟨n, hn, rfl⟩ := List.mem_map.1 h
  exact List.mem_map.2 ⟨n, (List.mem_filter.1 hn).1, rfl⟩
theorem gw_from {g : Gr} (h : Gw g) (s : Int) : Gw ⟨frN g.nodes s, frE g.edges s⟩ := by
  refine ⟨Nat.le_trans (List.length_filter_le _ _) h.n, Nat.le_trans (List.length_filter_le _ _) h.e, fun id q => h.id id (from_in q), fun k hk => ?_, ?_⟩
  · have hm := List.mem_filter.1 (List.getElem_mem hk)
    obtain ⟨j, hj, e⟩ := List.mem_iff_getElem.1 hm.1
    have hd := h.ends j hj
    rw [e] at hd
    have h2 := hm.2
    simp at h2
    exact ⟨in_from hd.1 h2.1, in_from hd.2 h2.2⟩
  · have hp : g.nodes.Pairwise (fun a b => a.id < b.id) := List.pairwise_iff_getElem.2 (fun i j hi hj hij => h.rise i j hj hij)
    have hq : (frN g.nodes s).Pairwise (fun a b => a.id < b.id) := hp.filter _
    exact fun i j hj hij => List.pairwise_iff_getElem.1 hq i j (Nat.lt_trans hij hj) hj hij

/-! ### the size of the circle, over a row -/
def SizeI (es : List Ed) (s : Int) (l : List Int) (m : Int) : Prop :=
  (m = -1 ∧ ∀ u ∈ l, ∀ d, ¬ Bk es s d u) ∨ (∃ n : Nat, m = n ∧ (∃ u d, Rz es s s u ∧ Bk es s d u ∧ n = d + 1) ∧ ∀ u ∈ l, ∀ d, Bk es s d u → n ≤ d + 1)
theorem SizeI.start (es : List Ed) (s : Int) : SizeI es s [] (-1) := .inl ⟨rfl, by simp⟩
theorem SizeI.none_at {es : List Ed} {s : Int} {l : List Int} {m x : Int} (h : SizeI es s l m) (hx : ∀ d, ¬ Bk es s d x) : SizeI es s (l ++ [x]) m := by
  rcases h with ⟨rfl, h⟩ | ⟨n, rfl, h1, h2⟩
  · exact .inl ⟨rfl, fun u hu d => by
      rw [List.mem_append, List.mem_singleton] at hu
      rcases hu with hu | rfl
      · exact h u hu d
      · exact hx d⟩
  · exact .inr ⟨n, rfl, h1, fun u hu d q => by
      rw [List.mem_append, List.mem_singleton] at hu
      rcases hu with hu | rfl
      · exact h2 u hu d q
      · exact absurd q (hx d)⟩
theorem SizeI.keep {es : List Ed} {s : Int} {l : List Int} {m x : Int} (h : SizeI es s l m) {d : Nat} (hx : Bk es s d x) (hm : 0 ≤ m) (hl : m ≤ (d : Int) + 1) : SizeI es s (l ++ [x]) m := by
  rcases h with ⟨rfl, h⟩ | ⟨n, rfl, h1, h2⟩
  · omega
  · exact .inr ⟨n, rfl, h1, fun u hu d' q => by
      rw [List.mem_append, List.mem_singleton] at hu
      rcases hu with hu | rfl
      · exact h2 u hu d' q
      · have := hx.same q; omega⟩
theorem SizeI.take {es : List Ed} {s : Int} {l : List Int} {m x : Int} (h : SizeI es s l m) {d : Nat} (hr : Rz es s s x) (hx : Bk es s d x) (hl : m < 0 ∨ (d : Int) + 1 < m) : SizeI es s (l ++ [x]) ((d : Int) + 1) := by
  refine .inr ⟨d + 1, by omega, ⟨x, d, hr, hx, rfl⟩, fun u hu d' q => ?_⟩
  rw [List.mem_append, List.mem_singleton] at hu
  rcases hu with hu | rfl
  · rcases h with ⟨rfl, h⟩ | ⟨n, rfl, h1, h2⟩
    · exact absurd q (h u hu d')
    · have := h2 u hu d' q; omega
  · have := hx.same q; omega
theorem SizeI.val {es : List Ed} {s : Int} {l : List Int} {m : Int} (h : SizeI es s l m) : m = -1 ∨ 1 ≤ m := by
  rcases h with ⟨rfl, _⟩ | ⟨n, rfl, ⟨_, d, _, _, rfl⟩, _⟩
  · exact .inl rfl
  · exact .inr (by omega)
theorem SizeI.none {es : List Ed} {s : Int} (h : SizeI es s (ends (frE es s) false s) (-1)) (L : List Int) : ¬ Cyc es s L := by
  rintro ⟨n, x, ⟨⟨u, d, h1, h2, _⟩, _⟩, _⟩
  rcases h with ⟨_, h⟩ | ⟨n, e, _⟩
  · exact h u (mem_ends_from.2 h1) d h2
  · omega
theorem SizeI.cmin {es : List Ed} {s : Int} {n : Nat} (h : SizeI es s (ends (frE es s) false s) (n : Int)) : CMin es s n := by
  rcases h with ⟨e, _⟩ | ⟨n', e, h1, h2⟩
  · omega
  · have : n = n' := by omega
    subst this
    exact ⟨h1, fun u d q1 q2 => h2 u (mem_ends_from.2 q1) d q2⟩
/-- the next node, over a row; 0: none yet -/
def NextI (es : List Ed) (s x : Int) (left : Nat) (l : List Int) (m : Int) : Prop :=
  (m = 0 ∧ ∀ u ∈ l, ¬ Bk es s left u) ∨ (0 < m ∧ Rz es s x m ∧ Bk es s left m ∧ ∀ u ∈ l, Bk es s left u → m ≤ u)
theorem NextI.start (es : List Ed) (s x : Int) (left : Nat) : NextI es s x left [] 0 := .inl ⟨rfl, by simp⟩
theorem NextI.skip {es : List Ed} {s x : Int} {left : Nat} {l : List Int} {m y : Int} (h : NextI es s x left l m) (hy : ¬ Bk es s left y) : NextI es s x left (l ++ [y]) m := by
  rcases h with ⟨rfl, h⟩ | ⟨h0', h1, h2, h3⟩
  · exact .inl ⟨rfl, fun u hu => by
      rw [List.mem_append, List.mem_singleton] at hu
      rcases hu with hu | rfl
      · exact h u hu
      · exact hy⟩
  · exact .inr ⟨h0', h1, h2, fun u hu q => by
      rw [List.mem_append, List.mem_singleton] at hu
      rcases hu with hu | rfl
      · exact h3 u hu q
      · exact absurd q hy⟩
theorem NextI.keep {es : List Ed} {s x : Int} {left : Nat} {l : List Int} {m y : Int} (h : NextI es s x left l m) (h0 : m ≠ 0) (hl : m ≤ y) : NextI es s x left (l ++ [y]) m := by
  rcases h with ⟨rfl, h⟩ | ⟨h0', h1, h2, h3⟩
  · exact absurd rfl h0
  · exact .inr ⟨h0', h1, h2, fun u hu q => by
      rw [List.mem_append, List.mem_singleton] at hu
      rcases hu with hu | rfl
      · exact h3 u hu q
      · exact hl⟩
theorem NextI.take {es : List Ed} {s x : Int} {left : Nat} {l : List Int} {m y : Int} (h : NextI es s x left l m) (hr : Rz es s x y) (hy : Bk es s left y) (hp : 0 < y) (hl : m = 0 ∨ y < m) : NextI es s x left (l ++ [y]) y := by
  refine .inr ⟨hp, hr, hy, fun u hu q => ?_⟩
  rw [List.mem_append, List.mem_singleton] at hu
  rcases hu with hu | rfl
  · rcases h with ⟨rfl, h⟩ | ⟨h0', h1, h2, h3⟩
    · exact absurd q (h u hu)
    · have := h3 u hu q
      rcases hl with hl | hl
      · omega
      · omega
  · exact Int.le_refl _
theorem NextI.done {g : Gr} {s x : Int} {n left : Nat} {L : List Int} {m : Int} (hm : CMin g.edges s n) (hc : Chn g.edges s n left L x) (h : NextI g.edges s x left (ends (frE g.edges s) false x) m) : Stp g.edges s x left m := by
  obtain ⟨u, hu, hb⟩ := hc.at hm
  rcases h with ⟨_, h⟩ | ⟨h0', h1, h2, h3⟩
  · exact absurd hb (h u (mem_ends_from.2 hu))
  · exact ⟨h1, h2, fun u' q1 q2 => h3 u' (mem_ends_from.2 q1) q2⟩
end Go.Proofs.YtllhimeffkefiaaGreatDoor
