/- Texts of one proof, joined in their order: each bears its own word of what it holds and on what condition. -/
import Derived.Test.YtllhimeffkefiaaGreatDoorMYe
import Derived.Test.YtllhimeffkefiaaGreatDoorMR
set_option linter.unusedVariables false
set_option linter.unusedSimpArgs false
/- Peeling: what is left when all that counts too little is struck, again and again; whatever the order. Plain law; no walk here. -/
set_option linter.unusedVariables false
set_option linter.unusedSimpArgs false
namespace Go.Proofs.YtllhimeffkefiaaGreatDoor

theorem CardOf.le {α : Type} [DecidableEq α] {P Q : α → Prop} {n m : Nat} (h : CardOf P n) (k : CardOf Q m) (hpq : ∀ x, P x → Q x) : n ≤ m := by
  obtain ⟨L, h1, h2, h3⟩ := h
  obtain ⟨M, k1, k2, k3⟩ := k
  have a := nodup_le L M h1 (fun x hx => (k2 x).2 (hpq x ((h2 x).1 hx)))
  omega
/-- some set in which each counts at least k holds id -/
def Core {α β : Type} (P : α → Prop) (C : (α → Prop) → α → β → Prop) (k : Nat) (id : α) : Prop := ∃ T : α → Prop, T id ∧ ∀ v, T v → P v ∧ ∃ c, k ≤ c ∧ CardOf (C T v) c
theorem Core.down {α β : Type} {P : α → Prop} {C : (α → Prop) → α → β → Prop} {k j : Nat} {id : α} (h : Core P C k id) (hj : j ≤ k) : Core P C j id := by
  obtain ⟨T, h1, h2⟩ := h
  exact ⟨T, h1, fun v hv => ⟨(h2 v hv).1, by obtain ⟨c, a, b⟩ := (h2 v hv).2; exact ⟨c, by omega, b⟩⟩⟩
theorem Core.of {α β : Type} {P : α → Prop} {C : (α → Prop) → α → β → Prop} {k : Nat} {id : α} (h : Core P C k id) : P id := by
  obtain ⟨T, h1, h2⟩ := h
  exact (h2 id h1).1
/-- the level of id -/
def CoreIs {α β : Type} (P : α → Prop) (C : (α → Prop) → α → β → Prop) (id : α) (k : Nat) : Prop := Core P C k id ∧ ¬ Core P C (k + 1) id
theorem CoreIs.same {α β : Type} {P : α → Prop} {C : (α → Prop) → α → β → Prop} {k j : Nat} {id : α} (h : CoreIs P C id k) (q : CoreIs P C id j) : k = j := by
  rcases Nat.lt_trichotomy k j with z | z | z
  · exact absurd (q.1.down z) h.2
  · exact z
  · exact absurd (h.1.down z) q.2
/-- while level k is peeled: S is what is left, f tells the levels of what is gone -/
structure Peel {α β : Type} (P : α → Prop) (C : (α → Prop) → α → β → Prop) (k : Nat) (S : α → Prop) (f : α → Nat) : Prop where
  sub : ∀ v, S v → Core P C k v
  sup : ∀ v, Core P C (k + 1) v → S v
  num : ∀ v, P v → ¬ S v → CoreIs P C v (f v)
theorem Peel.congr {α β : Type} {P : α → Prop} {C : (α → Prop) → α → β → Prop} {k : Nat} {S S' : α → Prop} {f f' : α → Nat} (h : Peel P C k S f) (hS : ∀ v, S v ↔ S' v) (hf : ∀ v, P v → ¬ S v → f v = f' v) : Peel P C k S' f' :=
  ⟨fun v hv => h.sub v ((hS v).2 hv), fun v hv => (hS v).1 (h.sup v hv), fun v hp hv => by rw [← hf v hp (fun q => hv ((hS v).1 q))]; exact h.num v hp (fun q => hv ((hS v).1 q))⟩
theorem Peel.start {α β : Type} {P : α → Prop} {C : (α → Prop) → α → β → Prop} (f : α → Nat) (hc : ∀ v, P v → ∃ c, CardOf (C P v) c) : Peel P C 0 P f :=
  ⟨fun v hv => ⟨P, hv, fun u hu => ⟨hu, by obtain ⟨c, q⟩ := hc u hu; exact ⟨c, Nat.zero_le _, q⟩⟩⟩, fun v hv => hv.of, fun v hp hv => absurd hp hv⟩
theorem Peel.drop {α β : Type} [DecidableEq β] {P : α → Prop} {C : (α → Prop) → α → β → Prop} (hC : ∀ S S' : α → Prop, (∀ v, S v → S' v) → ∀ v u, C S v u → C S' v u) {k : Nat} {S S' : α → Prop} {f f' : α → Nat} (h : Peel P C k S f) {v : α} {c : Nat} (hv : S v) (hc : CardOf (C S v) c) (hk : c ≤ k)
    (hS : ∀ u, S' u ↔ S u ∧ u ≠ v) (hf : ∀ u, u ≠ v → f' u = f u) (hfv : f' v = k) : Peel P C k S' f' := by
  have hno : ¬ Core P C (k + 1) v := by
    rintro ⟨T, h1, h2⟩
    obtain ⟨_, d, hd, hcd⟩ := h2 v h1
    have := CardOf.le hcd hc (fun u => hC T S (fun x hx => h.sup x ⟨T, hx, h2⟩) v u)
    omega
  refine ⟨fun u hu => h.sub u ((hS u).1 hu).1, fun u hu => (hS u).2 ⟨h.sup u hu, fun e => hno (e ▸ hu)⟩, fun u hp hu => ?_⟩
  by_cases e : u = v
  · rw [e, hfv]
    exact ⟨h.sub v hv, hno⟩
  · rw [hf u e]
    exact h.num u hp (fun q => hu ((hS u).2 ⟨q, e⟩))
theorem Peel.next {α β : Type} {P : α → Prop} {C : (α → Prop) → α → β → Prop} {k : Nat} {S : α → Prop} {f : α → Nat} (h : Peel P C k S f) (hst : ∀ v, S v → ∃ c, k + 1 ≤ c ∧ CardOf (C S v) c) : Peel P C (k + 1) S f :=
  ⟨fun v hv => ⟨S, hv, fun u hu => ⟨(h.sub u hu).of, hst u hu⟩⟩, fun v hv => h.sup v (hv.down (by omega)), h.num⟩
theorem Peel.done {α β : Type} {P : α → Prop} {C : (α → Prop) → α → β → Prop} {k : Nat} {S : α → Prop} {f : α → Nat} (h : Peel P C k S f) (hn : ∀ v, ¬ S v) : ∀ v, P v → CoreIs P C v (f v) := fun v hp => h.num v hp (hn v)
/-- no more levels than there are to count -/
theorem Peel.bound {α β : Type} [DecidableEq β] {P : α → Prop} {C : (α → Prop) → α → β → Prop} {k : Nat} {S : α → Prop} {f : α → Nat} (h : Peel P C k S f) {v : α} (hv : S v) (B : List β) (hB : ∀ T u, C T v u → u ∈ B) : k ≤ B.length := by
  obtain ⟨T, h1, h2⟩ := h.sub v hv
  obtain ⟨_, c, hc, L, k1, k2, k3⟩ := h2 v h1
  have := nodup_le L B k1 (fun x hx => hB T x ((k2 x).1 hx))
  omega
end Go.Proofs.YtllhimeffkefiaaGreatDoor
/- Sets of int64 (maps to bool, all true) of the call's own; a degree within what is not gone. No condition. -/
set_option linter.unusedVariables false
set_option linter.unusedSimpArgs false
namespace Go.Proofs.YtllhimeffkefiaaGreatDoor
open Go.RowKit Go.Sort
open Go.Maps (Keyed)

/-- the datum of a map that holds just the keys of S, each with the one value lv true -/
def SetG (lv : Bool → Lit) (D : DataW Unit) (S : Int → Bool) : Prop := ∃ l : List (Lit × DataW Unit), D = .map l ∧ (∀ p ∈ l, ∃ id, p.1 = .int .i64 id) ∧ (∀ id, Maps.has D (.int .i64 id) = S id) ∧ ∀ id, D.atKey (.int .i64 id) (.lit (lv false)) = .lit (lv (S id))
theorem SetG.none {lv : Bool → Lit} : SetG lv (.map []) (fun _ => false) := ⟨[], rfl, by simp, fun _ => rfl, fun _ => rfl⟩
theorem SetG.put {lv : Bool → Lit} {D : DataW Unit} {S : Int → Bool} (h : SetG lv D S) (id : Int) : SetG lv (D.put (.int .i64 id) (.lit (lv true))) (fun j => decide (j = id) || S j) := by
  obtain ⟨l, rfl, h2, h3, h4⟩ := h
  refine ⟨_, DataW.put_eq _ _ _, fun p hp => ?_, fun j => ?_, fun j => ?_⟩
  · unfold ChangeMaps.putKey at hp
    rcases ChangeMaps.mem_insert_iff.1 hp with e | e
    · exact ⟨id, by rw [e]⟩
    · exact h2 p (List.mem_filter.1 e).1
  · by_cases e : j = id
    · subst e
      rw [Maps.has_put_same ⟨_, rfl⟩ (keyLit _)]
      simp
    · rw [Maps.has_put_other (fun q => e (by injection q)), h3 j]
      simp [e]
  · by_cases e : j = id
    · subst e
      rw [Maps.atKey_put_same ⟨_, rfl⟩ (keyLit _)]
      simp
    · rw [Maps.atKey_put_other (fun q => e (by injection q)), h4 j]
      simp [e]
theorem SetG.del {lv : Bool → Lit} {D : DataW Unit} {S : Int → Bool} (h : SetG lv D S) (id : Int) : SetG lv (D.del (.int .i64 id)) (fun j => S j && !decide (j = id)) := by
  obtain ⟨l, rfl, h2, h3, h4⟩ := h
  refine ⟨_, DataW.del_eq _ _, fun p hp => h2 p ?_, fun j => ?_, fun j => ?_⟩
  · exact (List.mem_filter.1 hp).1
  · by_cases e : j = id
    · subst e
      rw [Maps.has_del_same]
      simp
    · rw [Maps.has_del_other (fun q => e (by injection q)), h3 j]
      simp [e]
  · by_cases e : j = id
    · subst e
      rw [Maps.atKey_del_same]
      simp
    · rw [Maps.atKey_del_other (fun q => e (by injection q)), h4 j]
      simp [e]
theorem SetG.zero {lv : Bool → Lit} {D : DataW Unit} {S : Int → Bool} (h : SetG lv D S) (hs : Maps.size D = 0) (id : Int) : S id = false := by
  obtain ⟨l, rfl, h2, h3, h4⟩ := h
  have : l = [] := List.length_eq_zero_iff.1 hs
  subst this
  exact (h3 id).symm
theorem SetG.some {lv : Bool → Lit} {D : DataW Unit} {S : Int → Bool} (h : SetG lv D S) (hs : 0 < Maps.size D) : ∃ id, S id = true := by
  obtain ⟨l, rfl, h2, h3, h4⟩ := h
  cases l with
  | nil => exact absurd hs (Nat.lt_irrefl _)
  | cons p l =>
    obtain ⟨id, e⟩ := h2 p (by simp)
    refine ⟨id, (h3 id).symm.trans ?_⟩
    show List.any _ _ = true
    rw [List.any_eq_true]
    exact ⟨p, by simp, by rw [e]; exact WideAt.sameKey_self (keyLit _)⟩
/-- .. to bool, each true -/
abbrev SetI := SetG (fun b => .bool b)
/-- .. to int, each 1 -/
abbrev SetJ := SetG (fun b => .int .i64 (if b then 1 else 0))
theorem own_tidy {w : World} {b n : Nat} {R : Value → Option (DataW Unit × List MemPlace)} {D : DataW Unit} (h : w.ownsMap Tryz.prog 2 R b n D) : Maps.Tidy D := h.tidy kmap2
theorem SetG.less {lv : Bool → Lit} {w : World} {b n : Nat} {R : Value → Option (DataW Unit × List MemPlace)} {D : DataW Unit} {S : Int → Bool} (h : SetG lv D S) (ho : w.ownsMap Tryz.prog 2 R b n D) {id : Int} (hid : S id = true) : Maps.size (D.del (.int .i64 id)) + 1 = Maps.size D := by
  have := Maps.size_del (k := .int .i64 id) (own_tidy ho)
  obtain ⟨l, rfl, h2, h3, h4⟩ := h
  rwa [h3 id, hid, if_pos rfl] at this
theorem zero4 (w : World) : (zeroValue 4).run Tryz.prog w = .ok (.bool false) w := by kernel_rfl
theorem und4 : Tryz.prog.underlying 4 = some .bool := by kernel_rfl
theorem plainElem_bool_inv {v : Value} {z : DataW Unit × List MemPlace} (h : plainElem Tryz.prog 4 v = some z) : ∃ x, v = .bool x ∧ z = (.lit (.bool x), []) := by
  unfold plainElem at h
  rw [und4] at h
  cases v <;> simp at h
  exact ⟨_, rfl, h.symm⟩
def litB : DataW Unit → Bool
  | .lit (.bool b) => b
  | _ => false
theorem setj_look {w : World} {b n : Nat} {D : DataW Unit} {S : Int → Bool} (h : SetJ D S) (ho : w.ownsMap Tryz.prog 2 (plainElem Tryz.prog 3) b n D) {id : Int} (hi : I64 id) : (Instr.lookup 131 (.map (some b)) (.int .i64 id) false).run Tryz.prog w = .ok (.int .i64 (if S id then 1 else 0)) w := by
  obtain ⟨c, hr, hc, _⟩ := ho.lookup_int kmap2 Tryz.underlying131 Tryz.underlying3 (zero3 w) (key2 hi)
  obtain ⟨l, rfl, h2, h3, h4⟩ := h
  have h5 := h4 id
  simp only [Bool.false_eq_true, if_false] at h5
  rw [h5] at hc
  cases hc
  exact hr
theorem setj_store {w : World} {b n : Nat} {D : DataW Unit} {S : Int → Bool} (h : SetJ D S) (ho : w.ownsMap Tryz.prog 2 (plainElem Tryz.prog 3) b n D) (hn : n < 1048576) {id : Int} (hi : I64 id) :
    ∃ w', (Instr.mapUpdate 131 (.map (some b)) (.int .i64 id) (.int .i64 1)).run Tryz.prog w = .ok () w' ∧ w'.ownsMap Tryz.prog 2 (plainElem Tryz.prog 3) b (n + 1) (D.put (.int .i64 id) (.lit (.int .i64 1))) ∧ w.grownBy w' (some b) :=
  ho.update kmap2 Tryz.underlying131 (Nat.lt_of_lt_of_le hn (by decide)) (key2 hi) (plainElem_int Tryz.underlying3 (show I64 1 from ⟨by decide, by decide⟩).wf)

/-! ### a degree within what is not gone -/
def DegG (n : Nat) (M : Nat → Nat → Bool) (gone : Nat → Bool) (i : Nat) (w : World) (e : Ending) (w' : World) : Prop := ∃ d : Nat, e = .returned (.int .i64 d) ∧ d ≤ n ∧ CardOf (fun j => j < n ∧ M i j = true ∧ gone j = false) d ∧ Below w.heap.size w w'
theorem card_skip {P : Nat → Prop} {k d : Nat} (h : CardOf (fun j => j < k ∧ P j) d) (hn : ¬ P k) : CardOf (fun j => j < k + 1 ∧ P j) d := h.congr fun j => by
  constructor
  · rintro ⟨a, b⟩; exact ⟨by omega, b⟩
  · rintro ⟨a, b⟩
    by_cases e : j = k
    · exact absurd (e ▸ b) hn
    · exact ⟨by omega, b⟩
theorem card_take {P : Nat → Prop} {k d : Nat} (h : CardOf (fun j => j < k ∧ P j) d) (hp : P k) : CardOf (fun j => j < k + 1 ∧ P j) (d + 1) := h.more (a := k) (fun q => Nat.lt_irrefl _ q.1) fun j => by
  constructor
  · rintro ⟨a, b⟩
    by_cases e : j = k
    · exact .inl e
    · exact .inr ⟨by omega, b⟩
  · rintro (rfl | ⟨a, b⟩)
    · exact ⟨by omega, hp⟩
    · exact ⟨by omega, b⟩
end Go.Proofs.YtllhimeffkefiaaGreatDoor
