/- Texts of one proof, joined in their order: each bears its own word of what it holds and on what condition. -/
import Derived.Test.YtbaljljlahhkfaaGreatDoorMYe
import Derived.Test.YtbaljljlahhkfaaGreatDoorMR
import Derived.StillTailTactics
set_option linter.unusedVariables false
set_option linter.unusedSimpArgs false
/- The specification's Triangles, whole. No condition on the graph. -/
set_option linter.unusedVariables false
set_option linter.unusedSimpArgs false
namespace Go.Proofs.YtbaljljlahhkfaaGreatDoor
open Go.RowKit Go.Sort

/-- a triple of places that i is in -/
def GoodT (n : Nat) (M : Nat → Nat → Bool) (i : Nat) (p : Nat × Nat) : Prop := p.1 < p.2 ∧ p.2 < n ∧ M i p.1 = true ∧ M i p.2 = true ∧ M p.1 p.2 = true
theorem good_tri {g : Gr} (h : Gw g) {i c : Nat} (hi : i < g.nodes.length) (hc : CardOf (GoodT g.nodes.length (lnks g.nodes g.edges) i) c) : CardOf (Tri g.edges g.nodes[i].id) c := by
  obtain ⟨P, h1, h2, h3⟩ := hc
  have hlt : ∀ p ∈ P, p.1 < g.nodes.length ∧ p.2 < g.nodes.length := fun p hp => by
    obtain ⟨a, b, _⟩ := (h2 p).1 hp
    exact ⟨by omega, b⟩
  have hnb : ∀ {i j : Nat} (hi : i < g.nodes.length) (hj : j < g.nodes.length), lnks g.nodes g.edges i j = true ↔ IsNb g.edges g.nodes[i].id g.nodes[j].id := fun {i j} hi hj => by
    rw [lnks_iff h hi hj]
    constructor
    · rintro ⟨hne, e, he, q⟩
      refine ⟨e, he, fun e2 => hne (gOk_inj h hi hj ?_), q⟩
      rcases q with ⟨q1, q2⟩ | ⟨q1, q2⟩ <;> rw [← q1, ← q2, e2]
    · rintro ⟨e, he, e2, q⟩
      refine ⟨fun e3 => ?_, e, he, q⟩
      subst e3
      rcases q with ⟨q1, q2⟩ | ⟨q1, q2⟩ <;> exact e2 (by rw [q1, q2])
  have hord : ∀ {i j : Nat} (hi : i < g.nodes.length) (hj : j < g.nodes.length), i < j ↔ g.nodes[i].id < g.nodes[j].id := fun {i j} hi hj => by
    constructor
    · exact fun q => h.rise _ _ hj q
    · intro q
      rcases Nat.lt_trichotomy i j with z | z | z
      · exact z
      · subst z; omega
      · have := h.rise _ _ hi z; omega
  refine ⟨P.map fun p => ((g.nodes.getD p.1 n0).id, (g.nodes.getD p.2 n0).id), ?_, fun q => ?_, by rw [List.length_map]; exact h3⟩
  · rw [List.nodup_iff_pairwise_ne, List.pairwise_map]
    refine List.Pairwise.imp_of_mem ?_ (List.nodup_iff_pairwise_ne.1 h1)
    intro p q hp hq hne e
    injection e with e1 e2
    rw [getD_eq (hlt p hp).1, getD_eq (hlt q hq).1] at e1
    rw [getD_eq (hlt p hp).2, getD_eq (hlt q hq).2] at e2
    exact hne (Prod.ext (gOk_inj h _ _ e1) (gOk_inj h _ _ e2))
  · rw [List.mem_map]
    constructor
    · rintro ⟨p, hp, rfl⟩
      obtain ⟨a, b⟩ := hlt p hp
      obtain ⟨g1, g2, g3, g4, g5⟩ := (h2 p).1 hp
      rw [getD_eq a, getD_eq b]
      exact ⟨(hord a b).1 g1, (hnb hi a).1 g3, (hnb hi b).1 g4, (hnb a b).1 g5⟩
    · rintro ⟨g1, g2, g3, g4⟩
      have m1 : q.1 ∈ idsOf g.nodes := by
        obtain ⟨e, he, _, z⟩ := g2
        obtain ⟨a, b⟩ := gOk_mem h he
        rcases z with ⟨_, z⟩ | ⟨_, z⟩ <;> rw [← z] <;> assumption
      have m2 : q.2 ∈ idsOf g.nodes := by
        obtain ⟨e, he, _, z⟩ := g3
        obtain ⟨a, b⟩ := gOk_mem h he
        rcases z with ⟨_, z⟩ | ⟨_, z⟩ <;> rw [← z] <;> assumption
      obtain ⟨k, hk, _, ek⟩ := gOk_pos h m1
      obtain ⟨m, hm, _, em⟩ := gOk_pos h m2
      refine ⟨(k, m), (h2 _).2 ⟨?_, hm, ?_, ?_, ?_⟩, by simp only [getD_eq hk, getD_eq hm, ek, em]⟩
      · exact (hord hk hm).2 (by rw [ek, em]; exact g1)
      · exact (hnb hi hk).2 (by rw [ek]; exact g2)
      · exact (hnb hi hm).2 (by rw [em]; exact g3)
      · exact (hnb hk hm).2 (by rw [ek, em]; exact g4)
theorem card_stay {k m c : Nat} {G : Nat × Nat → Prop} (h : CardOf (fun p => (p.1 < k ∨ (p.1 = k ∧ p.2 < m)) ∧ G p) c) (hn : ¬ G (k, m)) : CardOf (fun p => (p.1 < k ∨ (p.1 = k ∧ p.2 < m + 1)) ∧ G p) c :=
  h.congr fun p => by
    constructor
    · rintro ⟨a | ⟨a, b⟩, d⟩
      · exact ⟨.inl a, d⟩
      · exact ⟨.inr ⟨a, by omega⟩, d⟩
    · rintro ⟨a | ⟨a, b⟩, d⟩
      · exact ⟨.inl a, d⟩
      · by_cases e : p.2 = m
        · exact absurd (by rw [show (k, m) = p from Prod.ext a.symm e.symm]; exact d) hn
        · exact ⟨.inr ⟨a, by omega⟩, d⟩
theorem card_more {k m c : Nat} {G : Nat × Nat → Prop} (h : CardOf (fun p => (p.1 < k ∨ (p.1 = k ∧ p.2 < m)) ∧ G p) c) (hg : G (k, m)) : CardOf (fun p => (p.1 < k ∨ (p.1 = k ∧ p.2 < m + 1)) ∧ G p) (c + 1) :=
  h.more (a := (k, m)) (by
    rintro ⟨a | ⟨_, a⟩, _⟩
    · exact Nat.lt_irrefl _ a
    · exact Nat.lt_irrefl _ a) fun p => by
    constructor
    · rintro ⟨a | ⟨a, b⟩, d⟩
      · exact .inr ⟨.inl a, d⟩
      · by_cases e : p.2 = m
        · exact .inl (Prod.ext a e)
        · exact .inr ⟨.inr ⟨a, by omega⟩, d⟩
    · rintro (rfl | ⟨a | ⟨a, b⟩, d⟩)
      · exact ⟨.inr ⟨rfl, Nat.lt_succ_self _⟩, hg⟩
      · exact ⟨.inl a, d⟩
      · exact ⟨.inr ⟨a, by omega⟩, d⟩
theorem Wk.over {W3 W : World} {n i : Nat} {f : Nat → Int} {x : Int} (h : Wk W3 W n (fun j => if j = i then x else f j)) (hi : i < n) (y : Int) : Wk W3 (W.setCell ⟨W3.heap.size, i, none⟩ (.int .i64 y)) n (fun j => if j = i then y else f j) := by
  have := h.put hi y
  rwa [show (fun j => if j = i then y else if j = i then x else f j) = (fun j => if j = i then y else f j) by funext j; split <;> rfl] at this
end Go.Proofs.YtbaljljlahhkfaaGreatDoor
