/- Texts of one proof, joined in their order: each bears its own word of what it holds and on what condition. -/
import Derived.Test.YtllhimeffkefiaaGreatDoorML
import Derived.Maps.RangeWalk
import Derived.Sort.WalkB12
set_option linter.unusedVariables false
set_option linter.unusedSimpArgs false
/- How many parts a graph has, and some of its nodes gone: the plain law. No walk here. -/
set_option linter.unusedVariables false
set_option linter.unusedSimpArgs false
namespace Go.Proofs.YtllhimeffkefiaaGreatDoor
open Go.RowKit Go.Sort

/-- there are just n of these -/
def CardOf {α : Type} (P : α → Prop) (n : Nat) : Prop := ∃ L : List α, L.Nodup ∧ (∀ x, x ∈ L ↔ P x) ∧ n = L.length
theorem nodup_le {α : Type} [DecidableEq α] : ∀ (L M : List α), L.Nodup → (∀ x ∈ L, x ∈ M) → L.length ≤ M.length
  | [], _, _, _ => Nat.zero_le _
  | x :: L, M, h, hm => by
    rw [List.nodup_cons] at h
    have hx := hm x (by simp)
    have := nodup_le L (M.erase x) h.2 (fun y hy => (List.mem_erase_of_ne (fun e => h.1 (by rw [← e]; exact hy))).2 (hm y (by simp [hy])))
    rw [List.length_erase_of_mem hx] at this
    have : 0 < M.length := List.length_pos_of_mem hx
    simp only [List.length_cons]
    omega
theorem CardOf.same {α : Type} [DecidableEq α] {P : α → Prop} {n m : Nat} (h : CardOf P n) (k : CardOf P m) : n = m := by
  obtain ⟨L, h1, h2, h3⟩ := h
  obtain ⟨M, k1, k2, k3⟩ := k
  have a := nodup_le L M h1 (fun x hx => (k2 x).2 ((h2 x).1 hx))
  have b := nodup_le M L k1 (fun x hx => (h2 x).2 ((k2 x).1 hx))
  omega
theorem CardOf.congr {α : Type} {P Q : α → Prop} {n : Nat} (h : CardOf P n) (hpq : ∀ x, P x ↔ Q x) : CardOf Q n := by
  obtain ⟨L, h1, h2, h3⟩ := h
  exact ⟨L, h1, fun x => (h2 x).trans (hpq x), h3⟩
theorem CardOf.none {α : Type} {P : α → Prop} (h : ∀ x, ¬ P x) : CardOf P 0 := ⟨[], List.nodup_nil, fun x => by simp [h x], rfl⟩
theorem CardOf.more {α : Type} {P Q : α → Prop} {n : Nat} (h : CardOf P n) {a : α} (ha : ¬ P a) (hq : ∀ x, Q x ↔ x = a ∨ P x) : CardOf Q (n + 1) := by
  obtain ⟨L, h1, h2, h3⟩ := h
  exact ⟨a :: L, List.nodup_cons.2 ⟨fun q => ha ((h2 a).1 q), h1⟩, fun x => by rw [List.mem_cons, hq, h2], by simp [h3]⟩
/-- the least of its part -/
def Lead (ks : List Int) (es : List Ed) (x : Int) : Prop := x ∈ ks ∧ ∀ y ∈ ks, Con es x y → x ≤ y
def Comps (ks : List Int) (es : List Ed) (n : Nat) : Prop := CardOf (Lead ks es) n
theorem Comps.same {ks : List Int} {es : List Ed} {n m : Nat} (h : Comps ks es n) (k : Comps ks es m) : n = m := CardOf.same h k
theorem IsPart.lead {ks : List Int} {es : List Ed} {f : Int → Int} (h : IsPart ks es f) (x : Int) : (∃ id ∈ ks, f id = x) ↔ Lead ks es x := by
  constructor
  · rintro ⟨id, hid, rfl⟩
    obtain ⟨h1, h2, h3⟩ := h id hid
    exact ⟨h1, fun y hy hc => h3 y hy (h2.trans hc)⟩
  · rintro ⟨hx, hl⟩
    obtain ⟨h1, h2, h3⟩ := h x hx
    have a := h3 x hx (Con.refl _)
    have b := hl _ h1 h2
    exact ⟨x, hx, by omega⟩
theorem comps_vals {ks : List Int} {es : List Ed} {f : Int → Int} {but : Int} {n : Nat} (h : IsPart ks es f) (hb : but ∉ ks) (hc : CardOf (fun x => ∃ id ∈ ks, id ≠ but ∧ f id = x) n) : Comps ks es n :=
  hc.congr fun x => by
    rw [← h.lead x]
    constructor
    · rintro ⟨id, h1, _, h2⟩; exact ⟨id, h1, h2⟩
    · rintro ⟨id, h1, h2⟩; exact ⟨id, h1, fun e => hb (e ▸ h1), h2⟩

/-! ### some are gone -/
def Mg (M : Nat → Nat → Bool) (gone : Nat → Bool) (a b : Nat) : Bool := M a b && !gone b
/-- i is where a count of parts begins one anew -/
def StS (n : Nat) (M : Nat → Nat → Bool) (gone : Nat → Bool) (i : Nat) : Prop := i < n ∧ gone i = false ∧ ∀ k, k < i → gone k = false → ¬ Rch n (Mg M gone) k i
def Gd (ns : List Nd) (gone : Nat → Bool) (x : Int) : Prop := ∃ (j : Nat) (hj : j < ns.length), gone j = true ∧ ns[j].id = x
theorem gd_at {g : Gr} (h : Gw g) {gone : Nat → Bool} {i : Nat} (hi : i < g.nodes.length) : Gd g.nodes gone g.nodes[i].id ↔ gone i = true := by
  constructor
  · rintro ⟨j, hj, h1, h2⟩
    rw [← gOk_inj h hj hi h2]; exact h1
  · intro q; exact ⟨i, hi, q, rfl⟩
theorem rchg_con {g : Gr} (h : Gw g) {gone : Nat → Bool} {es : List Ed} (hes : ∀ e, e ∈ es ↔ e ∈ g.edges ∧ ¬ Gd g.nodes gone e.src ∧ ¬ Gd g.nodes gone e.dst) {i : Nat} (hi : i < g.nodes.length) (hg : gone i = false) {k : Nat} (hr : Rch g.nodes.length (Mg (lnks g.nodes g.edges) gone) i k) :
    ∃ hk : k < g.nodes.length, gone k = false ∧ Con es g.nodes[i].id g.nodes[k].id := by
  induction hr with
  | refl => exact ⟨hi, hg, .refl _⟩
  | @step b c hb hc hm ih =>
    obtain ⟨hk, hgk, ih⟩ := ih
    unfold Mg at hm
    rw [Bool.and_eq_true, Bool.not_eq_true'] at hm
    obtain ⟨_, e, he, q⟩ := (lnks_iff h hk hc).1 hm.1
    have nb : ¬ Gd g.nodes gone g.nodes[b].id := fun z => by rw [gd_at h hk, hgk] at z; cases z
    have nc : ¬ Gd g.nodes gone g.nodes[c].id := fun z => by rw [gd_at h hc, hm.2] at z; cases z
    refine ⟨hc, hm.2, ih.step ⟨e, (hes e).2 ⟨he, ?_⟩, q⟩⟩
    rcases q with ⟨q1, q2⟩ | ⟨q1, q2⟩
    · rw [q1, q2]; exact ⟨nb, nc⟩
    · rw [q1, q2]; exact ⟨nc, nb⟩
theorem con_rchg {g : Gr} (h : Gw g) {gone : Nat → Bool} {es : List Ed} (hes : ∀ e, e ∈ es ↔ e ∈ g.edges ∧ ¬ Gd g.nodes gone e.src ∧ ¬ Gd g.nodes gone e.dst) {i : Nat} (hi : i < g.nodes.length) {y : Int} (hc : Con es g.nodes[i].id y) :
    ∃ (k : Nat) (hk : k < g.nodes.length), g.nodes[k].id = y ∧ Rch g.nodes.length (Mg (lnks g.nodes g.edges) gone) i k := by
  generalize hx : g.nodes[i].id = x at hc
  induction hc with
  | refl => exact ⟨i, hi, hx, .refl⟩
  | step _ he ih =>
    obtain ⟨k, hk, hky, hr⟩ := ih
    obtain ⟨e, he, q⟩ := he
    obtain ⟨he, n1, n2⟩ := (hes e).1 he
    have hm := gOk_mem h he
    obtain ⟨k', hk', _, hk2⟩ := gOk_pos h (id := _) (by rcases q with q | q; exact q.2 ▸ hm.2; exact q.2 ▸ hm.1)
    have ng : gone k' = false := by
      cases hgk : gone k' with
      | false => rfl
      | true =>
        have : Gd g.nodes gone g.nodes[k'].id := ⟨k', hk', hgk, rfl⟩
        rw [hk2] at this
        rcases q with q | q
        · exact absurd (q.2 ▸ this) n2
        · exact absurd (q.2 ▸ this) n1
    by_cases e2 : k = k'
    · subst e2; exact ⟨k, hk, hk2, hr⟩
    · refine ⟨k', hk', hk2, hr.step hk' ?_⟩
      unfold Mg
      rw [ng, (lnks_iff h hk hk').2 ⟨e2, e, he, by rw [hky, hk2]; exact q⟩]
      rfl
theorem stS_lead {g : Gr} (h : Gw g) {gone : Nat → Bool} {ks : List Int} {es : List Ed} (hks : ∀ x, x ∈ ks ↔ x ∈ idsOf g.nodes ∧ ¬ Gd g.nodes gone x) (hes : ∀ e, e ∈ es ↔ e ∈ g.edges ∧ ¬ Gd g.nodes gone e.src ∧ ¬ Gd g.nodes gone e.dst) {i : Nat} (hi : i < g.nodes.length) :
    StS g.nodes.length (lnks g.nodes g.edges) gone i ↔ Lead ks es g.nodes[i].id := by
  constructor
  · rintro ⟨_, h1, h2⟩
    refine ⟨(hks _).2 ⟨ids_at hi, fun z => by rw [gd_at h hi, h1] at z; cases z⟩, fun y hy hc => ?_⟩
    obtain ⟨k, hk, rfl, hr⟩ := con_rchg h hes hi hc
    by_cases e : k < i
    · obtain ⟨_, hgk, _⟩ := rchg_con h hes hi h1 hr
      obtain ⟨k', hk', e3, hr'⟩ := con_rchg h hes hk (Con.symm hc)
      have := gOk_inj h hk' hi e3
      subst this
      exact absurd hr' (h2 k e hgk)
    · by_cases e2 : i = k
      · subst e2; exact Int.le_refl _
      · exact Int.le_of_lt (h.rise _ _ hk (by omega))
  · rintro ⟨h1, h2⟩
    have hg : gone i = false := by
      cases q : gone i with
      | false => rfl
      | true => exact absurd ((gd_at h hi).2 q) ((hks _).1 h1).2
    refine ⟨hi, hg, fun k hk hgk hr => ?_⟩
    have hkn : k < g.nodes.length := by omega
    obtain ⟨_, _, hc⟩ := rchg_con h hes hkn hgk hr
    have := h2 g.nodes[k].id ((hks _).2 ⟨ids_at hkn, fun z => by rw [gd_at h hkn, hgk] at z; cases z⟩) hc.symm
    have := h.rise _ _ hi hk
    omega
theorem comps_starts {g : Gr} (h : Gw g) {gone : Nat → Bool} {ks : List Int} {es : List Ed} (hks : ∀ x, x ∈ ks ↔ x ∈ idsOf g.nodes ∧ ¬ Gd g.nodes gone x) (hes : ∀ e, e ∈ es ↔ e ∈ g.edges ∧ ¬ Gd g.nodes gone e.src ∧ ¬ Gd g.nodes gone e.dst) {c : Nat}
    (hc : CardOf (StS g.nodes.length (lnks g.nodes g.edges) gone) c) : Comps ks es c := by
  obtain ⟨L, h1, h2, h3⟩ := hc
  have hlt : ∀ i ∈ L, i < g.nodes.length := fun i hi => ((h2 i).1 hi).1
  refine ⟨L.map fun i => (g.nodes.getD i n0).id, ?_, fun x => ?_, by rw [List.length_map]; exact h3⟩
  · clear h2 h3
    induction L with
    | nil => exact List.nodup_nil
    | cons a L ih =>
      rw [List.nodup_cons] at h1
      rw [List.map_cons, List.nodup_cons]
      refine ⟨fun q => ?_, ih h1.2 (fun i hi => hlt i (by simp [hi]))⟩
      obtain ⟨b, hb, e⟩ := List.mem_map.1 q
      have ha := hlt a (by simp)
      have hb2 := hlt b (by simp [hb])
      simp only [getD_eq ha, getD_eq hb2] at e
      exact h1.1 (gOk_inj h hb2 ha e ▸ hb)
  · rw [List.mem_map]
    constructor
    · rintro ⟨i, hi, rfl⟩
      simp only [getD_eq (hlt i hi)]
      exact (stS_lead h hks hes (hlt i hi)).1 ((h2 i).1 hi)
    · intro hl
      obtain ⟨i, hi, _, rfl⟩ := gOk_pos h ((hks x).1 hl.1).1
      exact ⟨i, (h2 i).2 ((stS_lead h hks hes hi).2 hl), by simp only [getD_eq hi]⟩
/-- of the whole graph -/
theorem comps_whole {g : Gr} (h : Gw g) {c : Nat} (hc : CardOf (StS g.nodes.length (lnks g.nodes g.edges) fun _ => false) c) : Comps (idsOf g.nodes) g.edges c := by
  have ng : ∀ x, ¬ Gd g.nodes (fun _ => false) x := by rintro x ⟨j, hj, q, _⟩; cases q
  exact comps_starts h (fun x => by simp [ng]) (fun e => by simp [ng]) hc

/-! ### the count as the specification makes it -/
/-- seen: what one below i has come to; c: how many have been begun -/
structure Cnt (n : Nat) (M : Nat → Nat → Bool) (gone : Nat → Bool) (i : Nat) (seen : Nat → Bool) (c : Nat) : Prop where
  seen : ∀ j, j < n → (seen j = true ↔ ∃ k, k < i ∧ gone k = false ∧ Rch n (Mg M gone) k j)
  card : CardOf (fun j => j < i ∧ StS n M gone j) c
theorem Rch.trans {n : Nat} {M : Nat → Nat → Bool} {a b c : Nat} (h : Rch n M a b) (k : Rch n M b c) : Rch n M a c := by
  induction k with
  | refl => exact h
  | step _ h1 h2 ih => exact ih.step h1 h2
theorem Cnt.start (n : Nat) (M : Nat → Nat → Bool) (gone : Nat → Bool) : Cnt n M gone 0 (fun _ => false) 0 :=
  ⟨fun j hj => by simp, CardOf.none fun x h => by omega⟩
theorem Cnt.skip {n : Nat} {M : Nat → Nat → Bool} {gone seen : Nat → Bool} {i c : Nat} (h : Cnt n M gone i seen c) (hi : i < n) (hs : gone i = true ∨ seen i = true) : Cnt n M gone (i + 1) seen c := by
  refine ⟨fun j hj => ?_, h.card.congr fun x => ?_⟩
  · rw [h.seen j hj]
    constructor
    · rintro ⟨k, h1, h2⟩; exact ⟨k, by omega, h2⟩
    · rintro ⟨k, h1, h2, h3⟩
      by_cases e : k = i
      · subst e
        rcases hs with q | q
        · rw [q] at h2; cases h2
        · obtain ⟨k', a, b, d⟩ := (h.seen k hi).1 q
          exact ⟨k', a, b, d.trans h3⟩
      · exact ⟨k, by omega, h2, h3⟩
  · constructor
    · rintro ⟨a, b⟩; exact ⟨by omega, b⟩
    · rintro ⟨a, b⟩
      refine ⟨?_, b⟩
      by_cases e : x = i
      · subst e
        rcases hs with q | q
        · rw [b.2.1] at q; cases q
        · obtain ⟨k', a1, b1, d⟩ := (h.seen x hi).1 q
          exact absurd d (b.2.2 k' a1 b1)
      · omega
theorem Cnt.take {n : Nat} {M : Nat → Nat → Bool} {gone seen r seen' : Nat → Bool} {i c : Nat} (h : Cnt n M gone i seen c) (hi : i < n) (hg : gone i = false) (hs : seen i = false) (hr : ∀ j, j < n → (r j = true ↔ Rch n (Mg M gone) i j)) (he : ∀ j, j < n → seen' j = (seen j || r j)) : Cnt n M gone (i + 1) seen' (c + 1) := by
  refine ⟨fun j hj => ?_, h.card.more (a := i) (fun q => by omega) fun x => ?_⟩
  · rw [he j hj, Bool.or_eq_true, h.seen j hj, hr j hj]
    constructor
    · rintro (⟨k, h1, h2⟩ | q)
      · exact ⟨k, by omega, h2⟩
      · exact ⟨i, by omega, hg, q⟩
    · rintro ⟨k, h1, h2, h3⟩
      by_cases e : k = i
      · subst e; exact .inr h3
      · exact .inl ⟨k, by omega, h2, h3⟩
  · constructor
    · rintro ⟨a, b⟩
      by_cases e : x = i
      · exact .inl e
      · exact .inr ⟨by omega, b⟩
    · rintro (rfl | ⟨a, b⟩)
      · refine ⟨by omega, hi, hg, fun k hk hgk hrk => ?_⟩
        have := (h.seen x hi).2 ⟨k, hk, hgk, hrk⟩
        rw [hs] at this; cases this
      · exact ⟨by omega, b⟩
theorem Cnt.done {n : Nat} {M : Nat → Nat → Bool} {gone seen : Nat → Bool} {c : Nat} (h : Cnt n M gone n seen c) : CardOf (StS n M gone) c :=
  h.card.congr fun x => ⟨fun q => q.2, fun q => ⟨q.1, q⟩⟩
theorem Cnt.le {n : Nat} {M : Nat → Nat → Bool} {gone seen : Nat → Bool} {i c : Nat} (h : Cnt n M gone i seen c) : c ≤ i := by
  obtain ⟨L, h1, h2, h3⟩ := h.card
  have := nodup_le L (List.range i) h1 (fun x hx => List.mem_range.2 ((h2 x).1 hx).1)
  rw [List.length_range] at this
  omega
/-! ### bridges -/
def pickN (id : Nat → Int) (dec : Nat → Bool) (k : Nat) : List Int := ((List.range k).filter dec).map id
theorem pickN_succ (id : Nat → Int) (dec : Nat → Bool) (k : Nat) : pickN id dec (k + 1) = pickN id dec k ++ (if dec k then [id k] else []) := by
  unfold pickN
  rw [List.range_succ, List.filter_append, List.map_append]
  by_cases h : dec k = true
  · rw [if_pos h]; simp [h]
  · rw [if_neg h]; simp [h]
theorem pickN_len (id : Nat → Int) (dec : Nat → Bool) : ∀ k, (pickN id dec k).length ≤ k
  | 0 => by simp [pickN]
  | k + 1 => by
    have := pickN_len id dec k
    rw [pickN_succ, List.length_append]
    split <;> simp <;> omega
theorem pickN_congr {id id' : Nat → Int} {dec dec' : Nat → Bool} : ∀ {k : Nat}, (∀ j, j < k → id j = id' j ∧ dec j = dec' j) → pickN id dec k = pickN id' dec' k
  | 0, _ => rfl
  | k + 1, h => by
    rw [pickN_succ, pickN_succ, pickN_congr (k := k) (fun j hj => h j (by omega)), (h k (by omega)).1, (h k (by omega)).2]
theorem pick_same {id : Nat → Int} {dec dec' : Nat → Bool} {k : Nat} (h : ∀ j, j < k → dec' j = dec j) (hk : dec' k = false) : pickN id dec' (k + 1) = pickN id dec k := by
  rw [pickN_succ, hk, pickN_congr (id' := id) (dec' := dec) (k := k) (fun j hj => ⟨rfl, h j hj⟩)]; simp
theorem pick_more {id : Nat → Int} {dec dec' : Nat → Bool} {k : Nat} (h : ∀ j, j < k → dec' j = dec j) (hk : dec' k = true) : pickN id dec' (k + 1) = pickN id dec k ++ [id k] := by
  rw [pickN_succ, hk, pickN_congr (id' := id) (dec' := dec) (k := k) (fun j hj => ⟨rfl, h j hj⟩)]; simp
def set1 (cs : Nat → Nat) (k x : Nat) : Nat → Nat := fun j => if j = k then x else cs j
theorem set1_same (cs : Nat → Nat) (k x : Nat) : set1 cs k x k = x := if_pos rfl
theorem set1_other {cs : Nat → Nat} {k x j : Nat} (h : j < k) : set1 cs k x j = cs j := if_neg (by omega)
/-- the bridges: whose loss makes more parts -/
def BrX (g : Gr) (xs : List Int) : Prop := (gOk g = false → xs = []) ∧ (gOk g = true → ∃ (c : Nat) (cs : Nat → Nat), Comps (idsOf g.nodes) g.edges c ∧ (∀ k, k < g.edges.length → Comps (idsOf g.nodes) (g.edges.eraseIdx k) (cs k)) ∧ xs = pickN (fun k => (g.edges.getD k d0).id) (fun k => decide (c < cs k)) g.edges.length)
theorem BrX.same {g : Gr} {xs ys : List Int} (h : BrX g xs) (k : BrX g ys) : xs = ys := by
  cases hg : gOk g with
  | false => rw [h.1 hg, k.1 hg]
  | true =>
    obtain ⟨c, cs, h1, h2, rfl⟩ := h.2 hg
    obtain ⟨d, ds, k1, k2, rfl⟩ := k.2 hg
    have e := h1.same k1
    subst e
    exact pickN_congr fun j hj => ⟨rfl, by rw [(h2 j hj).same (k2 j hj)]⟩
theorem BrX.len {g : Gr} {xs : List Int} (h : BrX g xs) : xs.length ≤ 400 := by
  cases hg : gOk g with
  | false => rw [h.1 hg]; simp
  | true =>
    obtain ⟨c, cs, _, _, rfl⟩ := h.2 hg
    exact Nat.le_trans (pickN_len _ _ _) (gOk_parts hg).2.1
theorem gw_less {g : Gr} (h : Gw g) (k : Nat) : Gw ⟨g.nodes, g.edges.eraseIdx k⟩ :=
  ⟨h.n, Nat.le_trans (List.length_eraseIdx_le _ _) h.e, h.id, fun j hj => gOk_mem h (List.mem_of_mem_eraseIdx (List.getElem_mem hj)), h.rise⟩
end Go.Proofs.YtllhimeffkefiaaGreatDoor
/- impl's count of parts: how many values a map has, one key left out. Condition: a map of the call's own. -/
set_option linter.unusedVariables false
set_option linter.unusedSimpArgs false
namespace Go.Proofs.YtllhimeffkefiaaGreatDoor
open Go.RowKit Go.Sort
open Go.Maps (Keyed)

/-- a map to int that holds just the keys of P; its numbers are at most m -/
def SeenM (w : World) (b : Nat) (P : Int → Prop) (m : Nat) : Prop :=
  ∃ (l : List (Lit × DataW Unit)) (f : Int → Int), w.ownsMap Tryz.prog 2 (plainElem Tryz.prog 3) b m (.map l) ∧ (∀ p ∈ l, ∃ id, p.1 = .int .i64 id) ∧ (∀ id, Maps.has (DataW.map l) (.int .i64 id) = true ↔ P id) ∧ ∀ id, (DataW.map l).atKey (.int .i64 id) (.lit (.int .i64 0)) = .lit (.int .i64 (f id)) ∧ 0 ≤ f id ∧ f id ≤ m
theorem SeenM.made (w : World) {P : Int → Prop} (hP : ∀ x, ¬ P x) : SeenM (w.alloc (.map #[] 0)) w.heap.size P 0 :=
  ⟨[], fun _ => 0, (World.ownsMap_made w _ _ _), by simp, fun id => ⟨fun h => by simp [Maps.has] at h, fun h => absurd h (hP id)⟩, fun _ => ⟨rfl, Int.le_refl _, Int.le_refl _⟩⟩
theorem SeenM.congr {w : World} {b : Nat} {P Q : Int → Prop} {m : Nat} (h : SeenM w b P m) (hpq : ∀ x, P x ↔ Q x) : SeenM w b Q m := by
  obtain ⟨l, f, h1, h2, h3, h4⟩ := h
  exact ⟨l, f, h1, h2, fun id => (h3 id).trans (hpq id), h4⟩
theorem SeenM.block {w w' : World} {b : Nat} {P : Int → Prop} {m : Nat} (h : SeenM w b P m) (hb : w'.heap[b]? = w.heap[b]?) : SeenM w' b P m := by
  obtain ⟨l, f, ⟨es, clock, h1, h2⟩, h3⟩ := h
  exact ⟨l, f, ⟨es, clock, hb.trans h1, h2⟩, h3⟩
theorem SeenM.lt {w : World} {b : Nat} {P : Int → Prop} {m : Nat} (h : SeenM w b P m) : b < w.heap.size := by
  obtain ⟨l, f, h1, _⟩ := h
  exact h1.lt
theorem SeenM.put {w : World} {b : Nat} {P : Int → Prop} {m : Nat} (h : SeenM w b P m) (hm : m < 1048576) {id : Int} (hi : I64 id) :
    ∃ x : Int, 0 ≤ x ∧ x ≤ m ∧ (Instr.lookup 131 (.map (some b)) (.int .i64 id) false).run Tryz.prog w = .ok (.int .i64 x) w ∧ ∃ w', (Instr.mapUpdate 131 (.map (some b)) (.int .i64 id) (.int .i64 (x + 1))).run Tryz.prog w = .ok () w' ∧ SeenM w' b (fun y => y = id ∨ P y) (m + 1) ∧ w.grownBy w' (some b) := by
  obtain ⟨l, f, h1, h2, h3, h4⟩ := h
  obtain ⟨hf, f0, f1⟩ := h4 id
  obtain ⟨c, hr, hc, _⟩ := h1.lookup_int kmap2 Tryz.underlying131 Tryz.underlying3 (zero3 w) (key2 hi)
  rw [hf] at hc
  cases hc
  have hx : I64 (f id + 1) := ⟨by omega, by omega⟩
  obtain ⟨w', hr2, ho, hg⟩ := h1.update kmap2 Tryz.underlying131 (by unfold maxLen; omega) (key2 hi) (plainElem_int Tryz.underlying3 hx.wf)
  refine ⟨f id, f0, f1, hr, w', hr2, ⟨_, fun j => if j = id then f id + 1 else f j, ho, fun p hp => ?_, fun j => ?_, fun j => ?_⟩, hg⟩
  · unfold ChangeMaps.putKey at hp
    rcases ChangeMaps.mem_insert_iff.1 hp with e | e
    · exact ⟨id, by rw [e]⟩
    · exact h2 p (List.mem_filter.1 e).1
  · show Maps.has ((DataW.map l).put (.int .i64 id) (.lit (.int .i64 (f id + 1)))) (.int .i64 j) = true ↔ j = id ∨ P j
    by_cases e : j = id
    · subst e
      rw [Maps.has_put_same ⟨_, rfl⟩ (keyLit _)]
      simp
    · rw [Maps.has_put_other (fun q => e (by injection q)), h3 j]
      simp [e]
  · show ((DataW.map l).put (.int .i64 id) (.lit (.int .i64 (f id + 1)))).atKey (.int .i64 j) (.lit (.int .i64 0)) = .lit (.int .i64 (if j = id then f id + 1 else f j)) ∧ 0 ≤ (if j = id then f id + 1 else f j) ∧ (if j = id then f id + 1 else f j) ≤ ((m + 1 : Nat) : Int)
    by_cases e : j = id
    · subst e
      simp only [if_true]
      rw [Maps.atKey_put_same ⟨_, rfl⟩ (keyLit _)]
      exact ⟨rfl, by omega, by omega⟩
    · simp only [if_neg e]
      rw [Maps.atKey_put_other (fun q => e (by injection q)), (h4 j).1]
      exact ⟨rfl, (h4 j).2.1, by have := (h4 j).2.2; omega⟩
theorem i64_wf {c : Int} (h : (Lit.int .i64 c).wf = true) : I64 c := by
  have h : (decide (-9223372036854775808 ≤ c) && decide (c ≤ 9223372036854775807)) = true := h
  rw [Bool.and_eq_true, decide_eq_true_eq, decide_eq_true_eq] at h
  exact h
def litInt : Lit → Int
  | .int _ n => n
  | _ => 0
theorem SeenM.len {w : World} {b : Nat} {P : Int → Prop} {m : Nat} (h : SeenM w b P m) : ∃ n : Nat, CardOf P n ∧ n ≤ m ∧ ∀ ty, (Builtin.len_ #[131] ty #[.map (some b)]).run Tryz.prog w = .ok (.int .i64 n) w := by
  obtain ⟨l, f, h1, h2, h3, h4⟩ := h
  obtain ⟨l2, e2, hd, _⟩ := h1.entries kmap2
  cases e2
  refine ⟨l.length, ⟨l.map fun p => litInt p.1, ?_, fun x => ?_, by rw [List.length_map]⟩, ?_, fun ty => h1.len Tryz.underlying131 ty⟩
  · rw [List.nodup_iff_pairwise_ne, List.pairwise_map]
    refine List.Pairwise.imp_of_mem ?_ hd
    intro p q hp hq hne e
    obtain ⟨i, hi⟩ := h2 p hp
    obtain ⟨j, hj⟩ := h2 q hq
    rw [hi, hj] at e
    simp only [litInt] at e
    exact hne (by rw [hi, hj, e])
  · rw [← h3 x, List.mem_map]
    show _ ↔ l.any _ = true
    rw [List.any_eq_true]
    constructor
    · rintro ⟨p, hp, rfl⟩
      obtain ⟨i, hi⟩ := h2 p hp
      exact ⟨p, hp, by rw [hi]; exact WideAt.sameKey_self (keyLit _)⟩
    · rintro ⟨p, hp, hs⟩
      exact ⟨p, hp, by rw [WideAt.sameKey_eq hs]; rfl⟩
  · obtain ⟨es, clock, _, _, hs, hD⟩ := h1
    injection hD with hD
    rw [hD, length_sorted]
    simpa using hs
/-- what is to come of a map with these keys -/
theorem MapK.has_iff {E : TypeId} {w : World} {b : Nat} {ks : List Int} {f : Int → Int} (h : MapK E w b ks f) (hp : ∀ id ∈ ks, f id ≠ 0) : ∃ l : List (Lit × DataW Unit), w.ownsMap Tryz.prog 2 (plainElem Tryz.prog E) b ks.length (.map l) ∧ l.length ≤ ks.length ∧ (∀ id, Maps.has (DataW.map l) (.int .i64 id) = true ↔ id ∈ ks) ∧ ∀ id, (DataW.map l).atKey (.int .i64 id) (.lit (.int .i64 0)) = .lit (.int .i64 (f id)) := by
  obtain ⟨l, h1, h2, h3⟩ := h
  obtain ⟨l2, e2, hd, _⟩ := h1.entries kmap2
  cases e2
  refine ⟨l, h1, keys_le _ ks hd h2, fun id => ⟨fun q => ?_, fun q => ?_⟩, h3⟩
  · obtain ⟨p, hp, hs⟩ := List.any_eq_true.1 (show l.any _ = true from q)
    obtain ⟨j, hj, e⟩ := h2 p hp
    have := WideAt.sameKey_eq hs
    rw [e] at this
    injection this with _ this
    exact this ▸ hj
  · cases hh : Maps.has (DataW.map l) (.int .i64 id) with
    | true => rfl
    | false =>
      have := h3 id
      rw [Maps.atKey_of_not_has hh] at this
      injection this with this
      injection this with _ this
      exact absurd this.symm (hp id q)
def CountR {α : Type} (P : α → Prop) (w : World) (e : Ending) (w' : World) : Prop := ∃ n : Nat, e = .returned (.int .i64 n) ∧ CardOf P n ∧ n ≤ 1048576 ∧ Below w.heap.size w w'
/-- on the way -/
structure Kc (w wr : World) (bm bs r : Nat) (l : List (Lit × DataW Unit)) (n : Nat) (ks : List Int) (f : Int → Int) (but : Int) (left : Lit → Bool) (cnt m : Nat) : Prop where
  rng : wr.ranges Tryz.prog 2 (plainElem Tryz.prog 2) bm r n (.map l) left cnt
  seen : SeenM wr bs (fun y => ∃ id ∈ ks, left (.int .i64 id) = false ∧ id ≠ but ∧ f id = y) m
  sub : ∀ kl, left kl = true → Maps.has (DataW.map l) kl = true
  bnd : m + cnt ≤ l.length
  below : Below w.heap.size w wr
theorem Kc.step {w wr w1 : World} {bm bs r : Nat} {l : List (Lit × DataW Unit)} {n : Nat} {ks : List Int} {f : Int → Int} {but : Int} {left : Lit → Bool} {cnt m : Nat} (h : Kc w wr bm bs r l n ks f but left cnt m) (hr : w.heap.size ≤ r) (hs : w.heap.size ≤ bs) (hrs : bs ≠ r) (hbs : bm ≠ bs) {x : Int} {cnt1 : Nat} (hx : x ∈ ks) (hlx : left (.int .i64 x) = true)
    (hrg : w1.ranges Tryz.prog 2 (plainElem Tryz.prog 2) bm r n (.map l) (fun z => left z && !z.sameKey (.int .i64 x)) cnt1) (hlt : cnt1 < cnt) (hg : wr.grownBy w1 (some r)) :
    SeenM w1 bs (fun y => ∃ id ∈ ks, left (.int .i64 id) = false ∧ id ≠ but ∧ f id = y) m ∧ m < l.length ∧
    (x = but → Kc w w1 bm bs r l n ks f but (fun z => left z && !z.sameKey (.int .i64 x)) cnt1 m) ∧
    (x ≠ but → ∀ w2, w1.grownBy w2 (some bs) → SeenM w2 bs (fun y => y = f x ∨ ∃ id ∈ ks, left (.int .i64 id) = false ∧ id ≠ but ∧ f id = y) (m + 1) → Kc w w2 bm bs r l n ks f but (fun z => left z && !z.sameKey (.int .i64 x)) cnt1 (m + 1)) := by
  have hbl := h.bnd
  have hS1 := h.seen.block (hg.block bs h.seen.lt (fun e => hrs (by injection e)))
  have hnew : ∀ id, (left (.int .i64 id) && !(Lit.int .i64 id).sameKey (.int .i64 x)) = false ↔ left (.int .i64 id) = false ∨ id = x := fun id => by
    rw [Bool.and_eq_false_iff, Bool.not_eq_false']
    constructor
    · rintro (a | a)
      · exact .inl a
      · exact .inr (by have := WideAt.sameKey_eq a; injection this)
    · rintro (a | a)
      · exact .inl a
      · subst a; exact .inr (WideAt.sameKey_self (keyLit _))
  have hb1 : Below w.heap.size w w1 := ⟨hg.os.trans h.below.os, hg.tape.trans h.below.tape, hg.output.trans h.below.output, Nat.le_trans h.below.size hg.size, fun b hb => (hg.block b (Nat.lt_of_lt_of_le hb h.below.size) (fun e => by injection e with e; omega)).trans (h.below.block b hb)⟩
  refine ⟨hS1, by omega, fun e => ?_, fun e w2 hg2 hS2 => ?_⟩
  · refine ⟨hrg, hS1.congr fun y => ?_, fun kl hk => h.sub kl (by rw [Bool.and_eq_true] at hk; exact hk.1), by omega, hb1⟩
    constructor
    · rintro ⟨id, a, b, c⟩; exact ⟨id, a, (hnew id).2 (.inl b), c⟩
    · rintro ⟨id, a, b, c, d⟩
      rcases (hnew id).1 b with q | q
      · exact ⟨id, a, q, c, d⟩
      · exact absurd (q.trans e) c
  · refine ⟨hrg.kept hg2 (fun e => hbs (by injection e)) (fun e => hrs (by injection e with e; exact e.symm)), hS2.congr fun y => ?_, fun kl hk => h.sub kl (by rw [Bool.and_eq_true] at hk; exact hk.1), by omega,
      ⟨hg2.os.trans hb1.os, hg2.tape.trans hb1.tape, hg2.output.trans hb1.output, Nat.le_trans hb1.size hg2.size, fun b hb => (hg2.block b (Nat.lt_of_lt_of_le hb hb1.size) (fun e => by injection e with e; omega)).trans (hb1.block b hb)⟩⟩
    constructor
    · rintro (rfl | ⟨id, a, b, c⟩)
      · exact ⟨x, hx, (hnew x).2 (.inr rfl), e, rfl⟩
      · exact ⟨id, a, (hnew id).2 (.inl b), c⟩
    · rintro ⟨id, a, b, c, d⟩
      rcases (hnew id).1 b with q | q
      · exact .inr ⟨id, a, q, c, d⟩
      · subst q; exact .inl d.symm
end Go.Proofs.YtllhimeffkefiaaGreatDoor
/- Rows as lists of their cells: taken, dropped, joined. No condition. -/
set_option linter.unusedVariables false
namespace Go.Proofs.YtllhimeffkefiaaGreatDoor
open Go.RowKit Go.Sort

/-- these cells, one behind the other, read as these elements -/
def Rep {α : Type} (sz : Nat) (E : Elem α) (w : World) (S : Nat → Prop) (news : List Value) (xs : List α) : Prop := news.length = xs.length * sz ∧ ∀ k x, xs[k]? = some x → ∃ f, (∀ j, j < sz → news[k * sz + j]? = some (f j)) ∧ E w S f x
def At (w : World) (b o : Nat) (news : List Value) : Prop := ∀ j u, news[j]? = some u → w.cell? ⟨b, o + j, none⟩ = some u
theorem Row.cells {α : Type} {sz : Nat} {E : Elem α} {w : World} {S : Nat → Prop} {b o n c : Nat} {xs : List α} (h : Row sz E w S (.slice (some ⟨b, o, none⟩) n c) xs) : ∃ news, Rep sz E w S news xs ∧ At w b o news := by
  obtain ⟨a', c', hv, hl, h⟩ := h
  cases hv
  refine ⟨(List.range (xs.length * sz)).map fun i => (w.cell? ⟨b, o + i, none⟩).getD undef, ⟨by simp, fun k x hx => ?_⟩, fun j u hj => ?_⟩
  · obtain ⟨b', o', f, e, _, hc, he⟩ := h k x hx
    cases e
    refine ⟨f, fun j hj => ?_, he⟩
    have hk := (List.getElem?_eq_some_iff.1 hx).1
    have h1 : k * sz + j < xs.length * sz := by
      have : (k + 1) * sz ≤ xs.length * sz := Nat.mul_le_mul_right sz hk
      rw [Nat.succ_mul] at this
      omega
    rw [List.getElem?_map, List.getElem?_range h1]
    show some ((w.cell? ⟨b, o + (k * sz + j), none⟩).getD undef) = _
    rw [← Nat.add_assoc, hc j hj]
    rfl
  · have hj2 := (List.getElem?_eq_some_iff.1 hj).1
    rw [List.length_map, List.length_range] at hj2
    rw [List.getElem?_map, List.getElem?_range hj2] at hj
    have hs : 0 < sz := Nat.pos_of_ne_zero (fun e => by subst e; omega)
    have hk : j / sz < xs.length := (Nat.div_lt_iff_lt_mul hs).2 hj2
    obtain ⟨b', o', f, e, _, hc, he⟩ := h (j / sz) _ (List.getElem?_eq_getElem hk)
    cases e
    have := hc (j % sz) (Nat.mod_lt _ hs)
    have e2 : o + j / sz * sz + j % sz = o + j := by
      have := Nat.div_add_mod j sz
      rw [Nat.mul_comm] at this
      omega
    rw [e2] at this
    simp only [Option.map_some, this, Option.getD_some, Option.some.injEq] at hj
    rw [this, hj]
theorem Rep.row {α : Type} {sz : Nat} {E : Elem α} {w : World} {S : Nat → Prop} {news : List Value} {xs : List α} (h : Rep sz E w S news xs) {b o c : Nat} (ha : At w b o news) (hS : S b) (hl : xs.length ≤ 9223372036854775807) : Row sz E w S (.slice (some ⟨b, o, none⟩) xs.length c) xs :=
  ⟨_, c, rfl, hl, fun k x hx => by
    obtain ⟨f, h1, h2⟩ := h.2 k x hx
    exact ⟨b, o, f, rfl, hS, fun j hj => by rw [Nat.add_assoc]; exact ha _ _ (h1 j hj), h2⟩⟩
theorem Rep.kept {α : Type} {sz : Nat} {E : Elem α} (hE : E.Kept) {w w' : World} {S : Nat → Prop} {news : List Value} {xs : List α} (h : Rep sz E w S news xs) (hb : Below w.heap.size w w') : Rep sz E w' S news xs :=
  ⟨h.1, fun k x hx => by
    obtain ⟨f, h1, h2⟩ := h.2 k x hx
    exact ⟨f, h1, hE w w' S f x (fun b _ hl => hb.block b hl) h2⟩⟩
theorem Rep.keptS {α : Type} {sz : Nat} {E : Elem α} (hE : E.Kept) {w w' : World} {S : Nat → Prop} {news : List Value} {xs : List α} (h : Rep sz E w S news xs) (hb : ∀ b, S b → b < w.heap.size → w'.heap[b]? = w.heap[b]?) : Rep sz E w' S news xs :=
  ⟨h.1, fun k x hx => by
    obtain ⟨f, h1, h2⟩ := h.2 k x hx
    exact ⟨f, h1, hE w w' S f x hb h2⟩⟩
theorem Rep.mono {α : Type} {sz : Nat} {E : Elem α} (hE : E.Mono) {w : World} {S S' : Nat → Prop} {news : List Value} {xs : List α} (h : Rep sz E w S news xs) (hb : ∀ b, S b → S' b) : Rep sz E w S' news xs :=
  ⟨h.1, fun k x hx => by
    obtain ⟨f, h1, h2⟩ := h.2 k x hx
    exact ⟨f, h1, hE w S S' f x hb h2⟩⟩
theorem Rep.take {α : Type} {sz : Nat} {E : Elem α} {w : World} {S : Nat → Prop} {news : List Value} {xs : List α} (h : Rep sz E w S news xs) {i : Nat} (hi : i ≤ xs.length) : Rep sz E w S (news.take (i * sz)) (xs.take i) := by
  have hm : i * sz ≤ xs.length * sz := Nat.mul_le_mul_right sz hi
  refine ⟨by rw [List.length_take, List.length_take, h.1, Nat.min_eq_left hm, Nat.min_eq_left hi], fun k x hx => ?_⟩
  rw [List.getElem?_take] at hx
  split at hx
  · rename_i hk
    obtain ⟨f, h1, h2⟩ := h.2 k x hx
    refine ⟨f, fun j hj => ?_, h2⟩
    have : (k + 1) * sz ≤ i * sz := Nat.mul_le_mul_right sz hk
    rw [Nat.succ_mul] at this
    rw [List.getElem?_take, if_pos (by omega)]
    exact h1 j hj
  · cases hx
theorem Rep.drop {α : Type} {sz : Nat} {E : Elem α} {w : World} {S : Nat → Prop} {news : List Value} {xs : List α} (h : Rep sz E w S news xs) {i : Nat} (hi : i ≤ xs.length) : Rep sz E w S (news.drop (i * sz)) (xs.drop i) := by
  refine ⟨by rw [List.length_drop, List.length_drop, h.1, Nat.sub_mul], fun k x hx => ?_⟩
  rw [List.getElem?_drop] at hx
  obtain ⟨f, h1, h2⟩ := h.2 _ x hx
  refine ⟨f, fun j hj => ?_, h2⟩
  rw [List.getElem?_drop, ← h1 j hj, Nat.add_mul, Nat.add_assoc]
theorem Rep.append {α : Type} {sz : Nat} {E : Elem α} {w : World} {S : Nat → Prop} {n1 n2 : List Value} {xs ys : List α} (h : Rep sz E w S n1 xs) (k : Rep sz E w S n2 ys) : Rep sz E w S (n1 ++ n2) (xs ++ ys) := by
  refine ⟨by rw [List.length_append, List.length_append, h.1, k.1, Nat.add_mul], fun i x hx => ?_⟩
  by_cases hi : i < xs.length
  · rw [List.getElem?_append_left hi] at hx
    obtain ⟨f, h1, h2⟩ := h.2 i x hx
    refine ⟨f, fun j hj => ?_, h2⟩
    have : (i + 1) * sz ≤ xs.length * sz := Nat.mul_le_mul_right sz hi
    rw [Nat.succ_mul] at this
    rw [List.getElem?_append_left (by rw [h.1]; omega)]
    exact h1 j hj
  · rw [List.getElem?_append_right (by omega)] at hx
    obtain ⟨f, h1, h2⟩ := k.2 _ x hx
    refine ⟨f, fun j hj => ?_, h2⟩
    have : xs.length * sz ≤ i * sz := Nat.mul_le_mul_right sz (by omega)
    rw [List.getElem?_append_right (by rw [h.1]; omega), h.1, ← h1 j hj, Nat.sub_mul]
    congr 1
    omega
theorem Rep.erase {α : Type} {sz : Nat} {E : Elem α} {w : World} {S : Nat → Prop} {news : List Value} {xs : List α} (h : Rep sz E w S news xs) {i : Nat} (hi : i < xs.length) : Rep sz E w S (news.take (i * sz) ++ news.drop ((i + 1) * sz)) (xs.eraseIdx i) := by
  rw [List.eraseIdx_eq_take_drop_succ]
  exact (h.take (by omega)).append (h.drop hi)
theorem Rep.one {α : Type} {sz : Nat} {E : Elem α} {w : World} {S : Nat → Prop} {news : List Value} {xs : List α} (hs : 0 < sz) (hE : ∀ f x, E w S f x → ∀ j, j < sz → (f j).oneCell' = true) (h : Rep sz E w S news xs) : ∀ u ∈ news, u.oneCell' = true := fun u hu => by
  obtain ⟨i, hi, rfl⟩ := List.mem_iff_getElem.1 hu
  have hi2 := hi
  rw [h.1] at hi2
  have hk : i / sz < xs.length := (Nat.div_lt_iff_lt_mul hs).2 hi2
  obtain ⟨f, h1, h2⟩ := h.2 (i / sz) _ (List.getElem?_eq_getElem hk)
  have := h1 (i % sz) (Nat.mod_lt _ hs)
  have e2 : i / sz * sz + i % sz = i := by
    have := Nat.div_add_mod i sz
    rwa [Nat.mul_comm] at this
  rw [e2, List.getElem?_eq_getElem hi] at this
  injection this with this
  rw [this]
  exact hE f _ h2 _ (Nat.mod_lt _ hs)
theorem EEd.one {w : World} {S : Nat → Prop} {f : Nat → Value} {x : Ed} (h : EEd w S f x) : ∀ j, j < 5 → (f j).oneCell' = true := fun j hj => by
  obtain ⟨h0, h1, h2, h3, h4, _⟩ := h
  obtain ⟨a, c, h4⟩ := h4.shape
  rcases (show j = 0 ∨ j = 1 ∨ j = 2 ∨ j = 3 ∨ j = 4 by omega) with rfl | rfl | rfl | rfl | rfl
  · rw [h0]; rfl
  · rw [h1]; rfl
  · rw [h2]; rfl
  · rw [h3]; rfl
  · rw [h4]; rfl
theorem ENd.one {w : World} {S : Nat → Prop} {f : Nat → Value} {x : Nd} (h : ENd w S f x) : ∀ j, j < 3 → (f j).oneCell' = true := fun j hj => by
  obtain ⟨h0, h1, h2⟩ := h
  obtain ⟨a, c, h1⟩ := h1.shape
  obtain ⟨a, c, h2⟩ := h2.shape
  rcases (show j = 0 ∨ j = 1 ∨ j = 2 by omega) with rfl | rfl | rfl
  · rw [h0]; rfl
  · rw [h1]; rfl
  · rw [h2]; rfl
theorem own_at {w : World} {base : Nat} {e : TypeId} {sz : Nat} {v : Value} {n : Nat} {news : List Value} (h : w.ownsRow base e sz v n news) (hn : 0 < n) : ∃ g c, v = .slice (some ⟨g, 0, none⟩) n c ∧ base ≤ g ∧ g < w.heap.size ∧ At w g 0 news ∧ n ≤ c ∧ c ≤ maxLen ∧ ∀ o, w.frozen? ⟨g, o, none⟩ = false := by
  have hf := h
  rcases h.2 with ⟨rfl, h0⟩ | ⟨g, cap, cur, rfl, hb, hgg, hc, hm, hs, ht⟩
  · omega
  · refine ⟨g, cap, rfl, hb, (Array.getElem?_eq_some_iff.1 hgg).1, fun j u hu => ?_, hc, hm, fun o => hf.frozenAt o⟩
    have hj : j < n * sz := by
      have := (List.getElem?_eq_some_iff.1 hu).1
      rw [← ht, List.length_take] at this
      omega
    have e : (cur.toList.take (n * sz))[j]? = some u := by rw [ht]; exact hu
    rw [List.getElem?_take, if_pos hj] at e
    have := World.news_of_block hgg j _ e
    rw [Addr.add_lit] at this
    exact this
end Go.Proofs.YtllhimeffkefiaaGreatDoor
