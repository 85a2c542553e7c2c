/- Texts of one proof, joined in their order: each bears its own word of what it holds and on what condition. -/
import Derived.Test.YtllhimeffkefiaaGreatDoorMYd
import Derived.Test.YtllhimeffkefiaaGreatDoorML
set_option linter.unusedVariables false
set_option linter.unusedSimpArgs false
/- impl's count of the triples of one node. Condition: the map of the neighbours is as neighbours makes it. -/
set_option linter.unusedVariables false
set_option linter.unusedSimpArgs false
namespace Go.Proofs.YtllhimeffkefiaaGreatDoor
open Go.RowKit Go.Sort

def cnt1 (L : Int → List Int) (a : Int) (l : List Int) : Nat := (l.filter fun b => decide (a < b) && (L a).contains b).length
def triF (L : Int → List Int) (id : Int) : Nat := ((L id).map fun a => cnt1 L a (L id)).sum
def triS (L : Int → List Int) (id : Int) (i : Nat) : Nat := (((L id).take i).map fun a => cnt1 L a (L id)).sum
theorem triS_succ {L : Int → List Int} {id : Int} {i : Nat} (hi : i < (L id).length) : triS L id (i + 1) = triS L id i + cnt1 L (L id)[i] (L id) := by
  unfold triS
  rw [take_snoc' _ i hi, List.map_append, List.sum_append]
  simp
theorem cnt1_succ {L : Int → List Int} {a : Int} {l : List Int} {j : Nat} (hj : j < l.length) : cnt1 L a (l.take (j + 1)) = cnt1 L a (l.take j) + (if (decide (a < l[j]) && (L a).contains l[j]) = true then 1 else 0) := by
  unfold cnt1
  rw [take_snoc' _ j hj, List.filter_append, List.length_append, List.filter_cons]
  split <;> rfl
theorem cnt1_le (L : Int → List Int) (a : Int) (l : List Int) : cnt1 L a l ≤ l.length := List.length_filter_le _ _
theorem triS_le {L : Int → List Int} {id : Int} (h : (L id).length ≤ 200) : ∀ i, triS L id i ≤ 200 * i
  | 0 => by simp [triS]
  | i + 1 => by
    have := triS_le h i
    by_cases hi : i < (L id).length
    · rw [triS_succ hi]; have := cnt1_le L (L id)[i] (L id); omega
    · unfold triS at *; rw [List.take_of_length_le (by omega)] at *; omega
theorem triS_all (L : Int → List Int) (id : Int) : triS L id (L id).length = triF L id := by unfold triS triF; rw [List.take_length]
end Go.Proofs.YtllhimeffkefiaaGreatDoor
/- impl's Triangles, whole. Condition: the library's variables are as they were laid. -/
set_option linter.unusedVariables false
set_option linter.unusedSimpArgs false
namespace Go.Proofs.YtllhimeffkefiaaGreatDoor
open Go.RowKit Go.Sort

/-- a triple that id is in, told by its two others -/
def Tri (es : List Ed) (id : Int) (p : Int × Int) : Prop := p.1 < p.2 ∧ IsNb es id p.1 ∧ IsNb es id p.2 ∧ IsNb es p.1 p.2
theorem pair_mem {L : Int → List Int} {id : Int} {p : Int × Int} : ∀ {l : List Int}, p ∈ (l.flatMap fun a => ((L id).filter fun b => decide (a < b) && (L a).contains b).map fun b => (a, b)) ↔ p.1 ∈ l ∧ p.2 ∈ L id ∧ p.1 < p.2 ∧ p.2 ∈ L p.1
  | [] => by simp
  | a :: l => by
    rw [List.flatMap_cons, List.mem_append, pair_mem (l := l), List.mem_map, List.mem_cons]
    constructor
    · rintro (⟨b, hb, rfl⟩ | ⟨h1, h2⟩)
      · rw [List.mem_filter, Bool.and_eq_true, decide_eq_true_eq] at hb
        exact ⟨.inl rfl, hb.1, hb.2.1, by simpa using hb.2.2⟩
      · exact ⟨.inr h1, h2⟩
    · rintro ⟨h1 | h1, h2, h3, h4⟩
      · subst h1
        exact .inl ⟨p.2, List.mem_filter.2 ⟨h2, by rw [Bool.and_eq_true, decide_eq_true_eq]; exact ⟨h3, by simpa using h4⟩⟩, rfl⟩
      · exact .inr ⟨h1, h2, h3, h4⟩
theorem pair_nodup {L : Int → List Int} {id : Int} (hn : (L id).Nodup) : ∀ {l : List Int}, l.Nodup → (l.flatMap fun a => ((L id).filter fun b => decide (a < b) && (L a).contains b).map fun b => (a, b)).Nodup
  | [], _ => by simp
  | a :: l, h => by
    rw [List.nodup_cons] at h
    rw [List.flatMap_cons, List.nodup_append]
    refine ⟨?_, pair_nodup hn h.2, fun p hp q hq e => ?_⟩
    · rw [List.nodup_iff_pairwise_ne, List.pairwise_map]
      exact ((List.nodup_iff_pairwise_ne.1 hn).filter _).imp (fun hne e => hne (by injection e))
    · subst e
      obtain ⟨b, _, rfl⟩ := List.mem_map.1 hp
      exact h.1 (pair_mem.1 hq).1
theorem pair_len {L : Int → List Int} {id : Int} : ∀ {l : List Int}, (l.flatMap fun a => ((L id).filter fun b => decide (a < b) && (L a).contains b).map fun b => (a, b)).length = (l.map fun a => cnt1 L a (L id)).sum
  | [] => rfl
  | a :: l => by
    rw [List.flatMap_cons, List.length_append, pair_len (l := l), List.map_cons, List.sum_cons, List.length_map]
    rfl
theorem tri_card {es : List Ed} {L : Int → List Int} (hm : ∀ a x, x ∈ L a ↔ IsNb es a x) (hn : ∀ a, (L a).Nodup) (id : Int) : CardOf (Tri es id) (triF L id) := by
  refine ⟨_, pair_nodup (hn id) (hn id), fun p => ?_, pair_len.symm⟩
  rw [pair_mem, hm, hm, hm]
  unfold Tri
  constructor
  · rintro ⟨a, b, c, d⟩; exact ⟨c, a, b, d⟩
  · rintro ⟨c, a, b, d⟩; exact ⟨a, b, c, d⟩
def TriX (g : Gr) (xs : List Pt) : Prop := (gOk g = false → xs = []) ∧ (gOk g = true → ∃ f : Int → Nat, (∀ id ∈ idsOf g.nodes, CardOf (Tri g.edges id) (f id)) ∧ xs = ptsOf g.nodes (fun id => ((f id : Nat) : Int)))
theorem TriX.same {g : Gr} {xs ys : List Pt} (h : TriX g xs) (k : TriX g ys) : xs = ys := by
  cases hg : gOk g with
  | false => rw [h.1 hg, k.1 hg]
  | true =>
    obtain ⟨f, hf, rfl⟩ := h.2 hg
    obtain ⟨f', hf', rfl⟩ := k.2 hg
    unfold ptsOf
    refine List.map_congr_left (fun x hx => ?_)
    have hid : x.id ∈ idsOf g.nodes := List.mem_map.2 ⟨x, hx, rfl⟩
    have : f x.id = f' x.id := CardOf.same (hf x.id hid) (hf' x.id hid)
    simp only [this]
theorem TriX.len {g : Gr} {xs : List Pt} (h : TriX g xs) : xs.length ≤ 200 := by
  cases hg : gOk g with
  | false => rw [h.1 hg]; simp
  | true =>
    obtain ⟨f, _, rfl⟩ := h.2 hg
    unfold ptsOf
    rw [List.length_map]
    exact (gOk_parts hg).1
def TriR (g : Gr) (w : World) (e : Ending) (w' : World) : Prop := ∃ xs, TriX g xs ∧ PtsR xs w e w'
end Go.Proofs.YtllhimeffkefiaaGreatDoor
