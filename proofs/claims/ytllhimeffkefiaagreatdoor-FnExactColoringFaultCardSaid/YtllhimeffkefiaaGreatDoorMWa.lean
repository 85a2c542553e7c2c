/- Texts of one proof, joined in their order: each bears its own word of what it holds and on what condition. -/
import Derived.Test.YtllhimeffkefiaaGreatDoorMN
import Derived.Test.YtllhimeffkefiaaGreatDoorMWb
import Derived.Test.YtllhimeffkefiaaGreatDoorML
set_option linter.unusedVariables false
set_option linter.unusedSimpArgs false
/- Walks and distances, plain. No walk through code here. -/
set_option linter.unusedVariables false
set_option linter.unusedSimpArgs false
namespace Go.Proofs.YtllhimeffkefiaaGreatDoor

def Wlk (R : Int → Int → Prop) (s : Int) : Nat → Int → Prop
  | 0, u => u = s
  | k + 1, u => ∃ v, Wlk R s k v ∧ R v u
/-- the shortest way from s to u has k steps -/
def Dst (R : Int → Int → Prop) (s : Int) (k : Nat) (u : Int) : Prop := Wlk R s k u ∧ ∀ j, j < k → ¬ Wlk R s j u
def Rea (R : Int → Int → Prop) (s u : Int) : Prop := ∃ k, Wlk R s k u
/-- known by level k -/
def Upt (R : Int → Int → Prop) (s : Int) (k : Nat) (u : Int) : Prop := ∃ j, j ≤ k ∧ Wlk R s j u
theorem dst_zero (R : Int → Int → Prop) (s u : Int) : Dst R s 0 u ↔ u = s := ⟨fun h => h.1, fun h => ⟨h, fun j hj => by omega⟩⟩
theorem upt_zero (R : Int → Int → Prop) (s u : Int) : Upt R s 0 u ↔ u = s := by
  constructor
  · rintro ⟨j, hj, h⟩
    have : j = 0 := by omega
    subst this
    exact h
  · exact fun h => ⟨0, Nat.le_refl _, h⟩
theorem wlk_dst {R : Int → Int → Prop} {s : Int} : ∀ {k : Nat} {u : Int}, Wlk R s k u → ∃ j, j ≤ k ∧ Dst R s j u := by
  intro k
  induction k using Nat.strongRecOn with
  | _ k ih =>
    intro u h
    by_cases q : ∃ j, j < k ∧ Wlk R s j u
    · obtain ⟨j, hj, hw⟩ := q
      obtain ⟨i, hi, hd⟩ := ih j hj hw
      exact ⟨i, by omega, hd⟩
    · exact ⟨k, Nat.le_refl _, h, fun j hj hw => q ⟨j, hj, hw⟩⟩
theorem Rea.dst {R : Int → Int → Prop} {s u : Int} (h : Rea R s u) : ∃ k, Dst R s k u := by
  obtain ⟨k, hk⟩ := h
  obtain ⟨j, _, hd⟩ := wlk_dst hk
  exact ⟨j, hd⟩
theorem Dst.rea {R : Int → Int → Prop} {s u : Int} {k : Nat} (h : Dst R s k u) : Rea R s u := ⟨k, h.1⟩
theorem Dst.same {R : Int → Int → Prop} {s u : Int} {k j : Nat} (h : Dst R s k u) (q : Dst R s j u) : k = j := by
  rcases Nat.lt_trichotomy k j with z | z | z
  · exact absurd h.1 (q.2 k z)
  · exact z
  · exact absurd q.1 (h.2 j z)
theorem Dst.prev {R : Int → Int → Prop} {s u : Int} {k : Nat} (h : Dst R s (k + 1) u) : ∃ v, Dst R s k v ∧ R v u := by
  obtain ⟨⟨v, hv, hr⟩, hn⟩ := h
  exact ⟨v, ⟨hv, fun j hj hw => hn (j + 1) (by omega) ⟨v, hw, hr⟩⟩, hr⟩
theorem Dst.chain {R : Int → Int → Prop} {s : Int} : ∀ {k : Nat} {u : Int}, Dst R s k u → ∃ L : List Int, L.Nodup ∧ L.length = k + 1 ∧ ∀ x ∈ L, ∃ j, j ≤ k ∧ Dst R s j x
  | 0, u, h => ⟨[u], by simp, rfl, fun x hx => ⟨0, Nat.le_refl _, by rw [List.mem_singleton.1 hx]; exact h⟩⟩
  | k + 1, u, h => by
    obtain ⟨v, hv, _⟩ := h.prev
    obtain ⟨L, h1, h2, h3⟩ := Dst.chain hv
    refine ⟨u :: L, List.nodup_cons.2 ⟨fun q => ?_, h1⟩, by simp [h2], fun x hx => ?_⟩
    · obtain ⟨j, hj, hd⟩ := h3 u q
      have := hd.same h
      omega
    · rcases List.mem_cons.1 hx with e | e
      · exact ⟨k + 1, Nat.le_refl _, e ▸ h⟩
      · obtain ⟨j, hj, hd⟩ := h3 x e
        exact ⟨j, by omega, hd⟩
theorem wlk_in {R : Int → Int → Prop} {s : Int} {ids : List Int} (hs : s ∈ ids) (hR : ∀ a b, R a b → b ∈ ids) : ∀ {k : Nat} {u : Int}, Wlk R s k u → u ∈ ids
  | 0, u, h => h ▸ hs
  | k + 1, u, ⟨v, _, hr⟩ => hR v u hr
theorem Dst.bound {R : Int → Int → Prop} {s u : Int} {k : Nat} {ids : List Int} (hs : s ∈ ids) (hR : ∀ a b, R a b → b ∈ ids) (h : Dst R s k u) : k + 1 ≤ ids.length := by
  obtain ⟨L, h1, h2, h3⟩ := h.chain
  have := nodup_le L ids h1 (fun x hx => by obtain ⟨j, _, hd⟩ := h3 x hx; exact wlk_in hs hR hd.1)
  omega
/-- one level more -/
theorem dst_succ {R : Int → Int → Prop} {s : Int} {k : Nat} (u : Int) : Dst R s (k + 1) u ↔ (∃ v, Dst R s k v ∧ R v u) ∧ ¬ Upt R s k u := by
  constructor
  · exact fun h => ⟨h.prev, fun ⟨j, hj, hw⟩ => h.2 j (by omega) hw⟩
  · rintro ⟨⟨v, hv, hr⟩, hn⟩
    exact ⟨⟨v, hv.1, hr⟩, fun j hj hw => hn ⟨j, by omega, hw⟩⟩
theorem upt_succ {R : Int → Int → Prop} {s : Int} {k : Nat} (u : Int) : Upt R s (k + 1) u ↔ Upt R s k u ∨ Dst R s (k + 1) u := by
  constructor
  · intro h
    by_cases q : Upt R s k u
    · exact .inl q
    · obtain ⟨j, hj, hw⟩ := h
      have : j = k + 1 := by
        by_cases e : j = k + 1
        · exact e
        · exact absurd ⟨j, by omega, hw⟩ q
      subst this
      exact .inr ⟨hw, fun i hi hv => q ⟨i, by omega, hv⟩⟩
  · rintro (⟨j, hj, hw⟩ | h)
    · exact ⟨j, by omega, hw⟩
    · exact ⟨k + 1, Nat.le_refl _, h.1⟩
theorem upt_dst {R : Int → Int → Prop} {s : Int} {k : Nat} (u : Int) : Upt R s k u ↔ ∃ j, j ≤ k ∧ Dst R s j u := by
  constructor
  · rintro ⟨j, hj, hw⟩
    obtain ⟨i, hi, hd⟩ := wlk_dst hw
    exact ⟨i, by omega, hd⟩
  · rintro ⟨j, hj, hd⟩; exact ⟨j, hj, hd.1⟩
/-- where a level is empty all is known -/
theorem upt_all {R : Int → Int → Prop} {s : Int} {k : Nat} (hn : ∀ u, ¬ Dst R s k u) : ∀ {j : Nat} {u : Int}, Dst R s j u → j < k := by
  intro j
  induction j with
  | zero =>
    intro u h
    rcases Nat.eq_zero_or_pos k with e | e
    · subst e; exact absurd h (hn u)
    · exact e
  | succ j ih =>
    intro u h
    obtain ⟨v, hv, _⟩ := h.prev
    have := ih hv
    by_cases e : k = j + 1
    · subst e; exact absurd h (hn u)
    · omega
/-- backwards -/
theorem rea_con {R R' : Int → Int → Prop} (h : ∀ a b, R a b ↔ R' a b) {s : Int} : ∀ {k : Nat} {u : Int}, Wlk R s k u ↔ Wlk R' s k u
  | 0, u => Iff.rfl
  | k + 1, u => by
    constructor
    · rintro ⟨v, a, b⟩; exact ⟨v, (rea_con h).1 a, (h _ _).1 b⟩
    · rintro ⟨v, a, b⟩; exact ⟨v, (rea_con h).2 a, (h _ _).2 b⟩
theorem wlk_step {R : Int → Int → Prop} {a b : Int} (h : R a b) : ∀ {k : Nat} {u : Int}, Wlk R b k u → Wlk R a (k + 1) u
  | 0, u, e => ⟨a, rfl, by rw [show u = b from e]; exact h⟩
  | k + 1, u, ⟨v, hv, hr⟩ => ⟨v, wlk_step h hv, hr⟩
theorem wlk_turn {R : Int → Int → Prop} {s : Int} : ∀ {k : Nat} {u : Int}, Wlk R s k u → Wlk (fun a b => R b a) u k s
  | 0, u, h => (show u = s from h).symm
  | k + 1, u, ⟨v, hv, hr⟩ => wlk_step (R := fun a b => R b a) hr (wlk_turn hv)
theorem rea_turn {R : Int → Int → Prop} {s u : Int} (h : Rea (fun a b => R b a) s u) : Rea R u s := by
  obtain ⟨k, hk⟩ := h
  exact ⟨k, wlk_turn hk⟩
end Go.Proofs.YtllhimeffkefiaaGreatDoor
/- Strong parts: what the two say, plain. No walk here. -/
set_option linter.unusedVariables false
set_option linter.unusedSimpArgs false
namespace Go.Proofs.YtllhimeffkefiaaGreatDoor
open Go.RowKit Go.Sort

/-- an edge from a to b -/
def Arc (es : List Ed) (a b : Int) : Prop := ∃ e ∈ es, e.src = a ∧ e.dst = b
theorem arc_in {g : Gr} (h : Gw g) {a b : Int} (q : Arc g.edges a b) : a ∈ idsOf g.nodes ∧ b ∈ idsOf g.nodes := by
  obtain ⟨e, he, rfl, rfl⟩ := q
  exact gOk_mem h he
theorem lnkd_iff {g : Gr} (h : Gw g) {i j : Nat} (hi : i < g.nodes.length) (hj : j < g.nodes.length) : lnkd g.nodes g.edges i j = true ↔ Arc g.edges g.nodes[i].id g.nodes[j].id := by
  unfold lnkd lnkd1 Arc
  rw [List.any_eq_true]
  constructor
  · rintro ⟨e, he, q⟩
    rw [Bool.and_eq_true, decide_eq_true_eq, decide_eq_true_eq] at q
    obtain ⟨m1, m2⟩ := gOk_mem h he
    obtain ⟨a, ha, a1, a2⟩ := gOk_pos h m1
    obtain ⟨b, hb, b1, b2⟩ := gOk_pos h m2
    have ea : a = i := by have := q.1; rw [a1] at this; omega
    have eb : b = j := by have := q.2; rw [b1] at this; omega
    subst ea; subst eb
    exact ⟨e, he, a2.symm, b2.symm⟩
  · rintro ⟨e, he, q1, q2⟩
    refine ⟨e, he, ?_⟩
    rw [Bool.and_eq_true, decide_eq_true_eq, decide_eq_true_eq, q1, q2]
    exact ⟨gOk_posAt h hi, gOk_posAt h hj⟩
theorem rch_rea {g : Gr} (h : Gw g) {i : Nat} (hi : i < g.nodes.length) {k : Nat} (hr : Rch g.nodes.length (lnkd g.nodes g.edges) i k) : ∃ hk : k < g.nodes.length, Rea (Arc g.edges) g.nodes[i].id g.nodes[k].id := by
  induction hr with
  | refl => exact ⟨hi, 0, rfl⟩
  | step hr hc hm ih =>
    obtain ⟨hk, n, hn⟩ := ih
    exact ⟨hc, n + 1, _, hn, (lnkd_iff h hk hc).1 hm⟩
theorem rea_rch {g : Gr} (h : Gw g) {i : Nat} (hi : i < g.nodes.length) : ∀ {n : Nat} {y : Int}, Wlk (Arc g.edges) g.nodes[i].id n y → ∃ (k : Nat) (hk : k < g.nodes.length), g.nodes[k].id = y ∧ Rch g.nodes.length (lnkd g.nodes g.edges) i k
  | 0, y, e => ⟨i, hi, (show y = _ from e).symm, .refl⟩
  | n + 1, y, ⟨v, hv, hr⟩ => by
    obtain ⟨k, hk, e, q⟩ := rea_rch h hi hv
    obtain ⟨k', hk', _, e'⟩ := gOk_pos h (arc_in h hr).2
    exact ⟨k', hk', e', q.step hk' ((lnkd_iff h hk hk').2 (by rw [e, e']; exact hr))⟩
theorem rch_iff {g : Gr} (h : Gw g) {i k : Nat} (hi : i < g.nodes.length) (hk : k < g.nodes.length) : Rch g.nodes.length (lnkd g.nodes g.edges) i k ↔ Rea (Arc g.edges) g.nodes[i].id g.nodes[k].id := by
  constructor
  · intro q
    obtain ⟨_, r⟩ := rch_rea h hi q
    exact r
  · rintro ⟨n, hn⟩
    obtain ⟨k', hk', e, r⟩ := rea_rch h hi hn
    have := gOk_inj h hk' hk e
    subst this
    exact r
/-- each can come to the other -/
def Both (es : List Ed) (a b : Int) : Prop := Rea (Arc es) a b ∧ Rea (Arc es) b a
/-- the least of those that a is with -/
def Led (es : List Ed) (a x : Int) : Prop := Both es a x ∧ ∀ y, Both es a y → x ≤ y
theorem Led.same {es : List Ed} {a x y : Int} (h : Led es a x) (k : Led es a y) : x = y := by
  have := h.2 y k.1
  have := k.2 x h.1
  omega
theorem both_refl (es : List Ed) (a : Int) : Both es a a := ⟨⟨0, rfl⟩, ⟨0, rfl⟩⟩
def StrongX (g : Gr) (xs : List Pt) : Prop := (gOk g = false → xs = []) ∧ (gOk g = true → ∃ f : Int → Int, (∀ id ∈ idsOf g.nodes, Led g.edges id (f id)) ∧ xs = ptsOf g.nodes f)
theorem StrongX.same {g : Gr} {xs ys : List Pt} (h : StrongX g xs) (k : StrongX g ys) : xs = ys := by
  cases hg : gOk g with
  | false => rw [h.1 hg, k.1 hg]
  | true =>
    obtain ⟨f, hf, rfl⟩ := h.2 hg
    obtain ⟨f', hf', rfl⟩ := k.2 hg
    unfold ptsOf
    refine List.map_congr_left (fun x hx => ?_)
    have hid : x.id ∈ idsOf g.nodes := List.mem_map.2 ⟨x, hx, rfl⟩
    have : f x.id = f' x.id := Led.same (hf x.id hid) (hf' x.id hid)
    simp only [this]
theorem StrongX.len {g : Gr} {xs : List Pt} (h : StrongX g xs) : xs.length ≤ 200 := by
  cases hg : gOk g with
  | false => rw [h.1 hg]; simp
  | true =>
    obtain ⟨f, _, rfl⟩ := h.2 hg
    unfold ptsOf
    rw [List.length_map]
    exact (gOk_parts hg).1
def StrongR (g : Gr) (w : World) (e : Ending) (w' : World) : Prop := ∃ xs, StrongX g xs ∧ PtsR xs w e w'
/-- the least place from m on, among those that are with i -/
def LowP (n : Nat) (M : Nat → Nat → Bool) (i m : Nat) (x : Option Nat) : Prop :=
  match x with
  | none => ∀ k, m ≤ k → k < n → ¬ (M i k = true ∧ M k i = true)
  | some p => m ≤ p ∧ p < n ∧ M i p = true ∧ M p i = true ∧ ∀ k, m ≤ k → k < p → ¬ (M i k = true ∧ M k i = true)
theorem led_of {g : Gr} (h : Gw g) {i p : Nat} (hi : i < g.nodes.length) (s : Nat → Nat → Bool) (hs : ∀ i k, i < g.nodes.length → k < g.nodes.length → (s i k = true ↔ Rch g.nodes.length (lnkd g.nodes g.edges) i k)) (hp : p < g.nodes.length) (h1 : s i p = true) (h2 : s p i = true) (hmin : ∀ k, k < p → ¬ (s i k = true ∧ s k i = true)) : Led g.edges g.nodes[i].id g.nodes[p].id := by
  refine ⟨⟨(rch_iff h hi hp).1 ((hs i p hi hp).1 h1), (rch_iff h hp hi).1 ((hs p i hp hi).1 h2)⟩, fun y hy => ?_⟩
  obtain ⟨⟨n, hn⟩, hb⟩ := hy
  obtain ⟨k, hk, rfl, r⟩ := rea_rch h hi hn
  by_cases q : k < p
  · exact absurd ⟨(hs i k hi hk).2 r, (hs k i hk hi).2 ((rch_iff h hk hi).2 hb)⟩ (hmin k q)
  · by_cases e : p = k
    · subst e; exact Int.le_refl _
    · exact Int.le_of_lt (h.rise _ _ hk (by omega))
end Go.Proofs.YtllhimeffkefiaaGreatDoor
