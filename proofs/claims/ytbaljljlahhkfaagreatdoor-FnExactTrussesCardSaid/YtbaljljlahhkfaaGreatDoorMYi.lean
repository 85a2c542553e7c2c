/- Texts of one proof, joined in their order: each bears its own word of what it holds and on what condition. -/
import Derived.Test.YtbaljljlahhkfaaGreatDoorMYe
import Derived.Test.YtbaljljlahhkfaaGreatDoorMR
import Derived.Test.YtbaljljlahhkfaaGreatDoorMYg
set_option linter.unusedVariables false
set_option linter.unusedSimpArgs false
/- Peeling: what is left when all that counts too little is struck, again and again; whatever the order. Plain law; no walk here. -/
set_option linter.unusedVariables false
set_option linter.unusedSimpArgs false
namespace Go.Proofs.YtbaljljlahhkfaaGreatDoor

theorem CardOf.le {α : Type} [DecidableEq α] {P Q : α → Prop} {n m : Nat} (h : CardOf P n) (k : CardOf Q m) (hpq : ∀ x, P x → Q x) : n ≤ m := by
  obtain ⟨L, h1, h2, h3⟩ := h
  obtain ⟨M, k1, k2, k3⟩ := k
  have a := nodup_le L M h1 (fun x hx => (k2 x).2 (hpq x ((h2 x).1 hx)))
  omega
/-- some set in which each counts at least k holds id -/
def Core {α β : Type} (P : α → Prop) (C : (α → Prop) → α → β → Prop) (k : Nat) (id : α) : Prop := ∃ T : α → Prop, T id ∧ ∀ v, T v → P v ∧ ∃ c, k ≤ c ∧ CardOf (C T v) c
theorem Core.down {α β : Type} {P : α → Prop} {C : (α → Prop) → α → β → Prop} {k j : Nat} {id : α} (h : Core P C k id) (hj : j ≤ k) : Core P C j id := by
  obtain ⟨T, h1, h2⟩ := h
  exact ⟨T, h1, fun v hv => ⟨(h2 v hv).1, by obtain ⟨c, a, b⟩ := (h2 v hv).2; exact ⟨c, by omega, b⟩⟩⟩
theorem Core.of {α β : Type} {P : α → Prop} {C : (α → Prop) → α → β → Prop} {k : Nat} {id : α} (h : Core P C k id) : P id := by
  obtain ⟨T, h1, h2⟩ := h
  exact (h2 id h1).1
/-- the level of id -/
def CoreIs {α β : Type} (P : α → Prop) (C : (α → Prop) → α → β → Prop) (id : α) (k : Nat) : Prop := Core P C k id ∧ ¬ Core P C (k + 1) id
theorem CoreIs.same {α β : Type} {P : α → Prop} {C : (α → Prop) → α → β → Prop} {k j : Nat} {id : α} (h : CoreIs P C id k) (q : CoreIs P C id j) : k = j := by
  rcases Nat.lt_trichotomy k j with z | z | z
  · exact absurd (q.1.down z) h.2
  · exact z
  · exact absurd (h.1.down z) q.2
/-- while level k is peeled: S is what is left, f tells the levels of what is gone -/
structure Peel {α β : Type} (P : α → Prop) (C : (α → Prop) → α → β → Prop) (k : Nat) (S : α → Prop) (f : α → Nat) : Prop where
  sub : ∀ v, S v → Core P C k v
  sup : ∀ v, Core P C (k + 1) v → S v
  num : ∀ v, P v → ¬ S v → CoreIs P C v (f v)
theorem Peel.congr {α β : Type} {P : α → Prop} {C : (α → Prop) → α → β → Prop} {k : Nat} {S S' : α → Prop} {f f' : α → Nat} (h : Peel P C k S f) (hS : ∀ v, S v ↔ S' v) (hf : ∀ v, P v → ¬ S v → f v = f' v) : Peel P C k S' f' :=
  ⟨fun v hv => h.sub v ((hS v).2 hv), fun v hv => (hS v).1 (h.sup v hv), fun v hp hv => by rw [← hf v hp (fun q => hv ((hS v).1 q))]; exact h.num v hp (fun q => hv ((hS v).1 q))⟩
theorem Peel.start {α β : Type} {P : α → Prop} {C : (α → Prop) → α → β → Prop} (f : α → Nat) (hc : ∀ v, P v → ∃ c, CardOf (C P v) c) : Peel P C 0 P f :=
  ⟨fun v hv => ⟨P, hv, fun u hu => ⟨hu, by obtain ⟨c, q⟩ := hc u hu; exact ⟨c, Nat.zero_le _, q⟩⟩⟩, fun v hv => hv.of, fun v hp hv => absurd hp hv⟩
theorem Peel.drop {α β : Type} [DecidableEq β] {P : α → Prop} {C : (α → Prop) → α → β → Prop} (hC : ∀ S S' : α → Prop, (∀ v, S v → S' v) → ∀ v u, C S v u → C S' v u) {k : Nat} {S S' : α → Prop} {f f' : α → Nat} (h : Peel P C k S f) {v : α} {c : Nat} (hv : S v) (hc : CardOf (C S v) c) (hk : c ≤ k)
    (hS : ∀ u, S' u ↔ S u ∧ u ≠ v) (hf : ∀ u, u ≠ v → f' u = f u) (hfv : f' v = k) : Peel P C k S' f' := by
  have hno : ¬ Core P C (k + 1) v := by
    rintro ⟨T, h1, h2⟩
    obtain ⟨_, d, hd, hcd⟩ := h2 v h1
    have := CardOf.le hcd hc (fun u => hC T S (fun x hx => h.sup x ⟨T, hx, h2⟩) v u)
    omega
  refine ⟨fun u hu => h.sub u ((hS u).1 hu).1, fun u hu => (hS u).2 ⟨h.sup u hu, fun e => hno (e ▸ hu)⟩, fun u hp hu => ?_⟩
  by_cases e : u = v
  · rw [e, hfv]
    exact ⟨h.sub v hv, hno⟩
  · rw [hf u e]
    exact h.num u hp (fun q => hu ((hS u).2 ⟨q, e⟩))
theorem Peel.next {α β : Type} {P : α → Prop} {C : (α → Prop) → α → β → Prop} {k : Nat} {S : α → Prop} {f : α → Nat} (h : Peel P C k S f) (hst : ∀ v, S v → ∃ c, k + 1 ≤ c ∧ CardOf (C S v) c) : Peel P C (k + 1) S f :=
  ⟨fun v hv => ⟨S, hv, fun u hu => ⟨(h.sub u hu).of, hst u hu⟩⟩, fun v hv => h.sup v (hv.down (by omega)), h.num⟩
theorem Peel.done {α β : Type} {P : α → Prop} {C : (α → Prop) → α → β → Prop} {k : Nat} {S : α → Prop} {f : α → Nat} (h : Peel P C k S f) (hn : ∀ v, ¬ S v) : ∀ v, P v → CoreIs P C v (f v) := fun v hp => h.num v hp (hn v)
/-- no more levels than there are to count -/
theorem Peel.bound {α β : Type} [DecidableEq β] {P : α → Prop} {C : (α → Prop) → α → β → Prop} {k : Nat} {S : α → Prop} {f : α → Nat} (h : Peel P C k S f) {v : α} (hv : S v) (B : List β) (hB : ∀ T u, C T v u → u ∈ B) : k ≤ B.length := by
  obtain ⟨T, h1, h2⟩ := h.sub v hv
  obtain ⟨_, c, hc, L, k1, k2, k3⟩ := h2 v h1
  have := nodup_le L B k1 (fun x hx => hB T x ((k2 x).1 hx))
  omega
end Go.Proofs.YtbaljljlahhkfaaGreatDoor
/- Sets of int64 (maps to bool, all true) of the call's own; a degree within what is not gone. No condition. -/
set_option linter.unusedVariables false
set_option linter.unusedSimpArgs false
namespace Go.Proofs.YtbaljljlahhkfaaGreatDoor
open Go.RowKit Go.Sort
open Go.Maps (Keyed)

/-- the datum of a map that holds just the keys of S, each with the one value lv true -/
def SetG (lv : Bool → Lit) (D : DataW Unit) (S : Int → Bool) : Prop := ∃ l : List (Lit × DataW Unit), D = .map l ∧ (∀ p ∈ l, ∃ id, p.1 = .int .i64 id) ∧ (∀ id, Maps.has D (.int .i64 id) = S id) ∧ ∀ id, D.atKey (.int .i64 id) (.lit (lv false)) = .lit (lv (S id))
theorem SetG.none {lv : Bool → Lit} : SetG lv (.map []) (fun _ => false) := ⟨[], rfl, by simp, fun _ => rfl, fun _ => rfl⟩
theorem SetG.put {lv : Bool → Lit} {D : DataW Unit} {S : Int → Bool} (h : SetG lv D S) (id : Int) : SetG lv (D.put (.int .i64 id) (.lit (lv true))) (fun j => decide (j = id) || S j) := by
  obtain ⟨l, rfl, h2, h3, h4⟩ := h
  refine ⟨_, DataW.put_eq _ _ _, fun p hp => ?_, fun j => ?_, fun j => ?_⟩
  · unfold ChangeMaps.putKey at hp
    rcases ChangeMaps.mem_insert_iff.1 hp with e | e
    · exact ⟨id, by rw [e]⟩
    · exact h2 p (List.mem_filter.1 e).1
  · by_cases e : j = id
    · subst e
      rw [Maps.has_put_same ⟨_, rfl⟩ (keyLit _)]
      simp
    · rw [Maps.has_put_other (fun q => e (by injection q)), h3 j]
      simp [e]
  · by_cases e : j = id
    · subst e
      rw [Maps.atKey_put_same ⟨_, rfl⟩ (keyLit _)]
      simp
    · rw [Maps.atKey_put_other (fun q => e (by injection q)), h4 j]
      simp [e]
theorem SetG.del {lv : Bool → Lit} {D : DataW Unit} {S : Int → Bool} (h : SetG lv D S) (id : Int) : SetG lv (D.del (.int .i64 id)) (fun j => S j && !decide (j = id)) := by
  obtain ⟨l, rfl, h2, h3, h4⟩ := h
  refine ⟨_, DataW.del_eq _ _, fun p hp => h2 p ?_, fun j => ?_, fun j => ?_⟩
  · exact (List.mem_filter.1 hp).1
  · by_cases e : j = id
    · subst e
      rw [Maps.has_del_same]
      simp
    · rw [Maps.has_del_other (fun q => e (by injection q)), h3 j]
      simp [e]
  · by_cases e : j = id
    · subst e
      rw [Maps.atKey_del_same]
      simp
    · rw [Maps.atKey_del_other (fun q => e (by injection q)), h4 j]
      simp [e]
theorem SetG.zero {lv : Bool → Lit} {D : DataW Unit} {S : Int → Bool} (h : SetG lv D S) (hs : Maps.size D = 0) (id : Int) : S id = false := by
  obtain ⟨l, rfl, h2, h3, h4⟩ := h
  have : l = [] := List.length_eq_zero_iff.1 hs
  subst this
  exact (h3 id).symm
theorem SetG.some {lv : Bool → Lit} {D : DataW Unit} {S : Int → Bool} (h : SetG lv D S) (hs : 0 < Maps.size D) : ∃ id, S id = true := by
  obtain ⟨l, rfl, h2, h3, h4⟩ := h
  cases l with
  | nil => exact absurd hs (Nat.lt_irrefl _)
  | cons p l =>
    obtain ⟨id, e⟩ := h2 p (by simp)
    refine ⟨id, (h3 id).symm.trans ?_⟩
    show List.any _ _ = true
    rw [List.any_eq_true]
    exact ⟨p, by simp, by rw [e]; exact WideAt.sameKey_self (keyLit _)⟩
/-- .. to bool, each true -/
abbrev SetI := SetG (fun b => .bool b)
/-- .. to int, each 1 -/
abbrev SetJ := SetG (fun b => .int .i64 (if b then 1 else 0))
theorem own_tidy {w : World} {b n : Nat} {R : Value → Option (DataW Unit × List MemPlace)} {D : DataW Unit} (h : w.ownsMap Tryz.prog 2 R b n D) : Maps.Tidy D := h.tidy kmap2
theorem SetG.less {lv : Bool → Lit} {w : World} {b n : Nat} {R : Value → Option (DataW Unit × List MemPlace)} {D : DataW Unit} {S : Int → Bool} (h : SetG lv D S) (ho : w.ownsMap Tryz.prog 2 R b n D) {id : Int} (hid : S id = true) : Maps.size (D.del (.int .i64 id)) + 1 = Maps.size D := by
  have := Maps.size_del (k := .int .i64 id) (own_tidy ho)
  obtain ⟨l, rfl, h2, h3, h4⟩ := h
  rwa [h3 id, hid, if_pos rfl] at this
theorem zero4 (w : World) : (zeroValue 4).run Tryz.prog w = .ok (.bool false) w := by kernel_rfl
theorem und4 : Tryz.prog.underlying 4 = some .bool := by kernel_rfl
theorem plainElem_bool_inv {v : Value} {z : DataW Unit × List MemPlace} (h : plainElem Tryz.prog 4 v = some z) : ∃ x, v = .bool x ∧ z = (.lit (.bool x), []) := by
  unfold plainElem at h
  rw [und4] at h
  cases v <;> simp at h
  exact ⟨_, rfl, h.symm⟩
def litB : DataW Unit → Bool
  | .lit (.bool b) => b
  | _ => false
theorem seti_look {w : World} {b n : Nat} {D : DataW Unit} {S : Int → Bool} (h : SetI D S) (ho : w.ownsMap Tryz.prog 2 (plainElem Tryz.prog 4) b n D) {id : Int} (hi : I64 id) : (Instr.lookup 80 (.map (some b)) (.int .i64 id) false).run Tryz.prog w = .ok (.bool (S id)) w := by
  obtain ⟨v, ps, hr, hv⟩ := ho.lookup kmap2 Tryz.underlying80 (zero4 w) (zd := .lit (.bool false)) (zp := []) (plainElem_bool und4 false) (key2 hi)
  obtain ⟨x, rfl, e⟩ := plainElem_bool_inv hv
  obtain ⟨l, rfl, h2, h3, h4⟩ := h
  have h5 : (DataW.map l).atKey (.int .i64 id) (.lit (.bool false)) = .lit (.bool (S id)) := h4 id
  rw [h5] at e
  have e2 : (DataW.lit (H := Unit) (.bool (S id))) = .lit (.bool x) := congrArg Prod.fst e
  have e4 : S id = x := congrArg litB e2
  rw [e4]
  exact hr
theorem seti_len {w : World} {b n : Nat} {D : DataW Unit} {S : Int → Bool} (h : SetI D S) (ho : w.ownsMap Tryz.prog 2 (plainElem Tryz.prog 4) b n D) (ty : TypeId) : (Builtin.len_ #[80] ty #[.map (some b)]).run Tryz.prog w = .ok (.int .i64 (Maps.size D)) w := ho.len Tryz.underlying80 ty
theorem seti_store {w : World} {b n : Nat} {D : DataW Unit} {S : Int → Bool} (h : SetI D S) (ho : w.ownsMap Tryz.prog 2 (plainElem Tryz.prog 4) b n D) (hn : n < 1048576) {id : Int} (hi : I64 id) :
    ∃ w', (Instr.mapUpdate 80 (.map (some b)) (.int .i64 id) (.bool true)).run Tryz.prog w = .ok () w' ∧ w'.ownsMap Tryz.prog 2 (plainElem Tryz.prog 4) b (n + 1) (D.put (.int .i64 id) (.lit (.bool true))) ∧ w.grownBy w' (some b) :=
  ho.update kmap2 Tryz.underlying80 (Nat.lt_of_lt_of_le hn (by decide)) (key2 hi) (plainElem_bool und4 true)

theorem setj_look {w : World} {b n : Nat} {D : DataW Unit} {S : Int → Bool} (h : SetJ D S) (ho : w.ownsMap Tryz.prog 2 (plainElem Tryz.prog 3) b n D) {id : Int} (hi : I64 id) : (Instr.lookup 116 (.map (some b)) (.int .i64 id) false).run Tryz.prog w = .ok (.int .i64 (if S id then 1 else 0)) w := by
  obtain ⟨c, hr, hc, _⟩ := ho.lookup_int kmap2 Tryz.underlying116 Tryz.underlying3 (zero3 w) (key2 hi)
  obtain ⟨l, rfl, h2, h3, h4⟩ := h
  have h5 := h4 id
  simp only [Bool.false_eq_true, if_false] at h5
  rw [h5] at hc
  cases hc
  exact hr
theorem setj_store {w : World} {b n : Nat} {D : DataW Unit} {S : Int → Bool} (h : SetJ D S) (ho : w.ownsMap Tryz.prog 2 (plainElem Tryz.prog 3) b n D) (hn : n < 1048576) {id : Int} (hi : I64 id) :
    ∃ w', (Instr.mapUpdate 116 (.map (some b)) (.int .i64 id) (.int .i64 1)).run Tryz.prog w = .ok () w' ∧ w'.ownsMap Tryz.prog 2 (plainElem Tryz.prog 3) b (n + 1) (D.put (.int .i64 id) (.lit (.int .i64 1))) ∧ w.grownBy w' (some b) :=
  ho.update kmap2 Tryz.underlying116 (Nat.lt_of_lt_of_le hn (by decide)) (key2 hi) (plainElem_int Tryz.underlying3 (show I64 1 from ⟨by decide, by decide⟩).wf)

/-! ### a degree within what is not gone -/
def DegG (n : Nat) (M : Nat → Nat → Bool) (gone : Nat → Bool) (i : Nat) (w : World) (e : Ending) (w' : World) : Prop := ∃ d : Nat, e = .returned (.int .i64 d) ∧ d ≤ n ∧ CardOf (fun j => j < n ∧ M i j = true ∧ gone j = false) d ∧ Below w.heap.size w w'
theorem card_skip {P : Nat → Prop} {k d : Nat} (h : CardOf (fun j => j < k ∧ P j) d) (hn : ¬ P k) : CardOf (fun j => j < k + 1 ∧ P j) d := h.congr fun j => by
  constructor
  · rintro ⟨a, b⟩; exact ⟨by omega, b⟩
  · rintro ⟨a, b⟩
    by_cases e : j = k
    · exact absurd (e ▸ b) hn
    · exact ⟨by omega, b⟩
theorem card_take {P : Nat → Prop} {k d : Nat} (h : CardOf (fun j => j < k ∧ P j) d) (hp : P k) : CardOf (fun j => j < k + 1 ∧ P j) (d + 1) := h.more (a := k) (fun q => Nat.lt_irrefl _ q.1) fun j => by
  constructor
  · rintro ⟨a, b⟩
    by_cases e : j = k
    · exact .inl e
    · exact .inr ⟨by omega, b⟩
  · rintro (rfl | ⟨a, b⟩)
    · exact ⟨by omega, hp⟩
    · exact ⟨by omega, b⟩
set_option maxHeartbeats 2000000 in
set_option maxRecDepth 100000 in
theorem sdegreeG_any (w : World) (base n : Nat) (hn : n ≤ 200) (v : Value) (gs : Nat → Nat) (M : Nat → Nat → Bool) (hM : Mx base w v n n gs M) (x : Nat) (hx : x < n) (gG cG : Nat) (gone : Nat → Bool) (hG : ∀ j, j < n → w.cell? ⟨gG, j, none⟩ = some (.bool (gone j))) :
    Calls Tryz.prog 48 #[.agg #[v], .int .i64 x, .slice (some ⟨gG, 0, none⟩) n cG] w (DegG n M gone x w) := by
  have hn2 : (n : Int) ≤ 200 := by omega
  obtain ⟨gO, cO, rfl, hrow⟩ := hM.rowcell hx
  have hMl := fun u => hM.below (W' := u)
  have hb0 := (Below.refl _ w).alloc (Nat.le_refl _) (.cells #[.slice (some ⟨gO, 0, none⟩) n cO] 53)
  have x0 : (w.alloc (.cells #[.slice (some ⟨gO, 0, none⟩) n cO] 53)).cell? ⟨w.heap.size, 0, none⟩ = some (.slice (some ⟨gO, 0, none⟩) n cO) := by rw [World.cell?_alloc_mark]; rfl
  go_enter Tryz.func48, Tryz.ntmps48
  go_wp2_with fail
  go_loopw [7, 8] (fun dd kk wr => ∃ (k d : Nat), k ≤ n ∧ d ≤ k ∧ kk = .int .i64 k ∧ dd = .int .i64 d ∧ CardOf (fun j => j < k ∧ M x j = true ∧ gone j = false) d ∧ Below w.heap.size w wr ∧ wr.cell? ⟨w.heap.size, 0, none⟩ = some (.slice (some ⟨gO, 0, none⟩) n cO)) (fun _ kk wr => n - (intOf kk).toNat)
  case atStart => exact ⟨0, 0, by omega, by omega, rfl, rfl, CardOf.none (fun j q => by omega), hb0, x0⟩
  case round =>
    clear hb0 x0
    obtain ⟨k, d, hk, hd, rfl, rfl, hiff, hb, q0⟩ := hrel
    by_cases hlt : k < n
    · have f0 : decide ((k : Int) < n) = true := decide_eq_true (by omega)
      have f0' : decide (k < n) = true := decide_eq_true hlt
      have hlt2 : (k : Int) < n := by omega
      have hxn2 : (x : Int) < n := by omega
      have hr1 : wr.cell? ⟨gO, x, none⟩ = some (.slice (some ⟨gs x, 0, none⟩) n n) := cell_kept (fun hl => hb.block gO hl) (hrow x hx)
      have z1 := (hMl wr hb).cell x hx k hlt
      have z3 : wr.cell? ⟨gG, k, none⟩ = some (.bool (gone k)) := cell_kept (fun hl => hb.block gG hl) (hG k hlt)
      have hd2 : (d : Int) ≤ 200 := by omega
      cases hm : M x k with
      | false =>
        rw [hm] at z1
        have hN := card_skip hiff (fun q => by have := q.1; rw [hm] at this; cases this)
        clear hiff hm
        go_wp2_with (go_at_call 79; refine (sbool_false _).mono ?_; rintro e w' ⟨rfl, rfl⟩)
        go_round
        case rel => exact ⟨k + 1, d, by omega, by omega, by go_num, by first | rfl | go_num, hN, hb, q0⟩
        case measure => simp [intOf]; omega
      | true =>
        rw [hm] at z1
        cases hgk : gone k with
        | true =>
          rw [hgk] at z3
          have hN := card_skip hiff (fun q => by have := q.2; rw [hgk] at this; cases this)
          clear hiff hm hgk
          go_wp2_with (go_at_call 79; refine (sbool_false _).mono ?_; rintro e w' ⟨rfl, rfl⟩)
          go_round
          case rel => exact ⟨k + 1, d, by omega, by omega, by go_num, by first | rfl | go_num, hN, hb, q0⟩
          case measure => simp [intOf]; omega
        | false =>
          rw [hgk] at z3
          have hN := card_take hiff ⟨hm, hgk⟩
          clear hiff hm hgk
          go_wp2_with (go_at_call 79; refine (sbool_true _).mono ?_; rintro e w' ⟨rfl, rfl⟩)
          go_round
          case rel => exact ⟨k + 1, d + 1, by omega, by omega, by go_num, by go_num, hN, hb, q0⟩
          case measure => simp [intOf]; omega
    · have hk3 : k = n := by omega
      subst hk3
      have f0 : decide ((k : Int) < k) = false := decide_eq_false (by omega)
      go_wp2_with fail
      go_ret
      exact ⟨d, rfl, hd, hiff, hb⟩
end Go.Proofs.YtbaljljlahhkfaaGreatDoor
/- Cores: what the two say, plain; what lies in memory on the way. No walk here. -/
set_option linter.unusedVariables false
set_option linter.unusedSimpArgs false
namespace Go.Proofs.YtbaljljlahhkfaaGreatDoor
open Go.RowKit Go.Sort
open Go.Maps (Keyed)

theorem CardOf.less {α : Type} [DecidableEq α] {P Q : α → Prop} {n : Nat} (h : CardOf P n) {a : α} (ha : P a) (hq : ∀ x, Q x ↔ P x ∧ x ≠ a) : 0 < n ∧ CardOf Q (n - 1) := by
  obtain ⟨L, h1, h2, h3⟩ := h
  have hm := (h2 a).2 ha
  have := List.length_pos_of_mem hm
  refine ⟨by omega, L.erase a, h1.erase a, fun x => ?_, by rw [List.length_erase_of_mem hm, h3]⟩
  rw [h1.mem_erase_iff, hq, h2]
  constructor
  · rintro ⟨q1, q2⟩; exact ⟨q2, q1⟩
  · rintro ⟨q1, q2⟩; exact ⟨q2, q1⟩
theorem CardOf.pos {α : Type} {P : α → Prop} {n : Nat} (h : CardOf P n) : 0 < n ↔ ∃ x, P x := by
  obtain ⟨L, h1, h2, h3⟩ := h
  subst h3
  constructor
  · intro q
    obtain ⟨x, hx⟩ := List.exists_mem_of_length_pos q
    exact ⟨x, (h2 x).1 hx⟩
  · rintro ⟨x, hx⟩
    exact List.length_pos_of_mem ((h2 x).2 hx)
theorem card_all (n : Nat) : CardOf (fun j => j < n ∧ (fun _ : Nat => false) j = false) n := ⟨List.range n, List.nodup_range, fun x => by simp, by simp⟩

def moreOf (v : Value) : Nat := match v with
  | .bool true => 1
  | _ => 0
/-- neighbours that T has -/
def CNb (es : List Ed) (T : Int → Prop) (v u : Int) : Prop := IsNb es v u ∧ T u
def PId (ns : List Nd) (v : Int) : Prop := v ∈ idsOf ns
theorem CNb.mono {es : List Ed} : ∀ S S' : Int → Prop, (∀ v, S v → S' v) → ∀ v u, CNb es S v u → CNb es S' v u := fun S S' h v u q => ⟨q.1, h u q.2⟩
theorem CNb.mem {g : Gr} (h : Gw g) {T : Int → Prop} {v u : Int} (q : CNb g.edges T v u) : u ∈ idsOf g.nodes := by
  obtain ⟨⟨e, he, _, z⟩, _⟩ := q
  obtain ⟨m1, m2⟩ := gOk_mem h he
  rcases z with ⟨_, z⟩ | ⟨_, z⟩ <;> rw [← z] <;> assumption
/-- a row of neighbours, those of S counted -/
theorem cnb_card {es : List Ed} {L : Int → List Int} (hm : ∀ a x, x ∈ L a ↔ IsNb es a x) (hn : ∀ a, (L a).Nodup) (S : Int → Bool) (v : Int) : CardOf (CNb es (fun u => S u = true) v) ((L v).filter S).length :=
  ⟨(L v).filter S, (hn v).filter _, fun x => by rw [List.mem_filter, hm]; rfl, rfl⟩
def CoreX (g : Gr) (xs : List Pt) : Prop := (gOk g = false → xs = []) ∧ (gOk g = true → ∃ f : Int → Nat, (∀ id ∈ idsOf g.nodes, CoreIs (PId g.nodes) (CNb g.edges) id (f id)) ∧ xs = ptsOf g.nodes (fun id => ((f id : Nat) : Int)))
theorem CoreX.same {g : Gr} {xs ys : List Pt} (h : CoreX g xs) (k : CoreX g ys) : xs = ys := by
  cases hg : gOk g with
  | false => rw [h.1 hg, k.1 hg]
  | true =>
    obtain ⟨f, hf, rfl⟩ := h.2 hg
    obtain ⟨f', hf', rfl⟩ := k.2 hg
    unfold ptsOf
    refine List.map_congr_left (fun x hx => ?_)
    have hid : x.id ∈ idsOf g.nodes := List.mem_map.2 ⟨x, hx, rfl⟩
    have : f x.id = f' x.id := CoreIs.same (hf x.id hid) (hf' x.id hid)
    simp only [this]
theorem CoreX.len {g : Gr} {xs : List Pt} (h : CoreX g xs) : xs.length ≤ 200 := by
  cases hg : gOk g with
  | false => rw [h.1 hg]; simp
  | true =>
    obtain ⟨f, _, rfl⟩ := h.2 hg
    unfold ptsOf
    rw [List.length_map]
    exact (gOk_parts hg).1
def CoreR (g : Gr) (w : World) (e : Ending) (w' : World) : Prop := ∃ xs, CoreX g xs ∧ PtsR xs w e w'

/-! ### places and Ids -/
theorem lnks_nb {g : Gr} (h : Gw g) {i j : Nat} (hi : i < g.nodes.length) (hj : j < g.nodes.length) : lnks g.nodes g.edges i j = true ↔ IsNb g.edges g.nodes[i].id g.nodes[j].id := by
  rw [lnks_iff h hi hj]
  constructor
  · rintro ⟨hne, e, he, q⟩
    refine ⟨e, he, fun e2 => hne (gOk_inj h hi hj ?_), q⟩
    rcases q with ⟨q1, q2⟩ | ⟨q1, q2⟩ <;> rw [← q1, ← q2, e2]
  · rintro ⟨e, he, e2, q⟩
    refine ⟨fun e3 => ?_, e, he, q⟩
    subst e3
    rcases q with ⟨q1, q2⟩ | ⟨q1, q2⟩ <;> exact e2 (by rw [q1, q2])
/-- what is not gone, by Id -/
def Lf (ns : List Nd) (gone : Nat → Bool) (x : Int) : Prop := ∃ (j : Nat) (hj : j < ns.length), gone j = false ∧ ns[j].id = x
theorem lf_at {g : Gr} (h : Gw g) {gone : Nat → Bool} {i : Nat} (hi : i < g.nodes.length) : Lf g.nodes gone g.nodes[i].id ↔ gone i = false := by
  constructor
  · rintro ⟨j, hj, q, e⟩
    have := gOk_inj h hj hi e
    subst this
    exact q
  · exact fun q => ⟨i, hi, q, rfl⟩
theorem lf_all (ns : List Nd) (x : Int) : Lf ns (fun _ => false) x ↔ PId ns x := by
  unfold PId idsOf
  rw [List.mem_map]
  constructor
  · rintro ⟨j, hj, _, e⟩; exact ⟨_, List.getElem_mem hj, e⟩
  · rintro ⟨n, hn, e⟩
    obtain ⟨j, hj, e2⟩ := List.mem_iff_getElem.1 hn
    exact ⟨j, hj, rfl, by rw [e2]; exact e⟩
def setT (gone : Nat → Bool) (i : Nat) : Nat → Bool := fun j => if j = i then true else gone j
theorem setT_at (gone : Nat → Bool) (i : Nat) : setT gone i i = true := by unfold setT; rw [if_pos rfl]
theorem setT_ne {gone : Nat → Bool} {i j : Nat} (h : j ≠ i) : setT gone i j = gone j := by unfold setT; rw [if_neg h]
theorem lf_less {g : Gr} (h : Gw g) {gone : Nat → Bool} {i : Nat} (hi : i < g.nodes.length) (x : Int) : Lf g.nodes (setT gone i) x ↔ Lf g.nodes gone x ∧ x ≠ g.nodes[i].id := by
  constructor
  · rintro ⟨j, hj, q, e⟩
    by_cases z : j = i
    · rw [z, setT_at] at q; cases q
    · rw [setT_ne z] at q
      exact ⟨⟨j, hj, q, e⟩, fun e2 => z (gOk_inj h hj hi (e.trans e2))⟩
  · rintro ⟨⟨j, hj, q, e⟩, hne⟩
    exact ⟨j, hj, by rw [setT_ne (fun z => hne (by subst z; exact e.symm))]; exact q, e⟩
theorem card_ids {g : Gr} (h : Gw g) {gone : Nat → Bool} {i d : Nat} (hi : i < g.nodes.length) (hc : CardOf (fun j => j < g.nodes.length ∧ lnks g.nodes g.edges i j = true ∧ gone j = false) d) : CardOf (CNb g.edges (Lf g.nodes gone) g.nodes[i].id) d := by
  obtain ⟨L, h1, h2, h3⟩ := hc
  have hlt : ∀ p ∈ L, p < g.nodes.length := fun p hp => ((h2 p).1 hp).1
  refine ⟨L.map fun p => (g.nodes.getD p n0).id, ?_, fun q => ?_, by rw [List.length_map]; exact h3⟩
  · rw [List.nodup_iff_pairwise_ne, List.pairwise_map]
    refine List.Pairwise.imp_of_mem ?_ (List.nodup_iff_pairwise_ne.1 h1)
    intro p q hp hq hne e
    rw [getD_eq (hlt p hp), getD_eq (hlt q hq)] at e
    exact hne (gOk_inj h _ _ e)
  · rw [List.mem_map]
    constructor
    · rintro ⟨p, hp, rfl⟩
      obtain ⟨a, b, c⟩ := (h2 p).1 hp
      rw [getD_eq a]
      exact ⟨(lnks_nb h hi a).1 b, (lf_at h a).2 c⟩
    · rintro ⟨a, j, hj, b, rfl⟩
      exact ⟨j, (h2 j).2 ⟨hj, (lnks_nb h hi hj).2 a, b⟩, by rw [getD_eq hj]⟩

/-! ### impl: the map of the levels, in its box -/
structure Ck (W1 wr : World) (B cb bc : Nat) (ids : List Int) (f : Int → Nat) : Prop where
  below : Below B W1 wr
  box : wr.cell? ⟨cb, 0, none⟩ = some (.map (some bc))
  core : MapK 2 wr bc ids (fun id => ((f id : Nat) : Int))
theorem Ck.grow {W1 wr w' : World} {B cb bc x : Nat} {ids : List Int} {f : Int → Nat} (h : Ck W1 wr B cb bc ids f) (hg : wr.grownBy w' (some x)) (hx : B ≤ x) (h1 : x ≠ cb) (h2 : x ≠ bc) (hB : B ≤ W1.heap.size) : Ck W1 w' B cb bc ids f :=
  ⟨⟨hg.os.trans h.below.os, hg.tape.trans h.below.tape, hg.output.trans h.below.output, Nat.le_trans h.below.size hg.size, fun b hb => (hg.block b (Nat.lt_of_lt_of_le (Nat.lt_of_lt_of_le hb hB) h.below.size) (fun e => by injection e with e; omega)).trans (h.below.block b hb)⟩,
    cell_kept (fun hl => hg.block cb hl (fun e => h1 (by injection e with e; exact e.symm))) h.box, h.core.below (hg.block bc h.core.lt (fun e => h2 (by injection e with e; exact e.symm)))⟩
theorem Ck.grow0 {W1 wr w' : World} {B cb bc : Nat} {ids : List Int} {f : Int → Nat} (h : Ck W1 wr B cb bc ids f) (hg : wr.grownBy w' none) (hB : B ≤ W1.heap.size) : Ck W1 w' B cb bc ids f :=
  ⟨⟨hg.os.trans h.below.os, hg.tape.trans h.below.tape, hg.output.trans h.below.output, Nat.le_trans h.below.size hg.size, fun b hb => (hg.block b (Nat.lt_of_lt_of_le (Nat.lt_of_lt_of_le hb hB) h.below.size) (by simp)).trans (h.below.block b hb)⟩,
    cell_kept (fun hl => hg.block cb hl (by simp)) h.box, h.core.below (hg.block bc h.core.lt (by simp))⟩
def updN (f : Int → Nat) (id : Int) (k : Nat) : Int → Nat := fun j => if j = id then k else f j
theorem Ck.put {W1 wr : World} {B cb bc : Nat} {ids : List Int} {f : Int → Nat} (h : Ck W1 wr B cb bc ids f) (hn : ids.length < 1048576) {id : Int} (hk : id ∈ ids) (hi : I64 id) (k : Nat) (hk2 : k ≤ 1000000) (hne : cb ≠ bc) (hc : B ≤ bc) (hB : B ≤ W1.heap.size) :
    ∃ w', (Instr.mapUpdate 66 (.map (some bc)) (.int .i64 id) (.int .i64 (k : Int))).run Tryz.prog wr = .ok () w' ∧ Ck W1 w' B cb bc ids (updN f id k) ∧ wr.grownBy w' (some bc) := by
  obtain ⟨w', hr, hm, hg⟩ := h.core.put Tryz.underlying66 Tryz.underlying2 hn hk hi (x := (k : Int)) ⟨by omega, by omega⟩
  refine ⟨w', hr, ⟨⟨hg.os.trans h.below.os, hg.tape.trans h.below.tape, hg.output.trans h.below.output, Nat.le_trans h.below.size hg.size, fun b hb => (hg.block b (Nat.lt_of_lt_of_le (Nat.lt_of_lt_of_le hb hB) h.below.size) (fun e => by injection e with e; omega)).trans (h.below.block b hb)⟩,
    cell_kept (fun hl => hg.block cb hl (fun e => hne (by injection e))) h.box, ?_⟩, hg⟩
  rw [show (fun j => ((updN f id k j : Nat) : Int)) = upd (fun j => ((f j : Nat) : Int)) id (k : Int) by funext j; unfold updN upd; split <;> rfl]
  exact hm

/-! ### the specification: two rows side by side -/
structure Wg (W3 W : World) (gG gN n : Nat) (gone : Nat → Bool) (nums : Nat → Nat) : Prop where
  below : Below W3.heap.size W3 W
  gon : ∀ j, j < n → W.cell? ⟨gG, j, none⟩ = some (.bool (gone j))
  num : ∀ j, j < n → W.cell? ⟨gN, j, none⟩ = some (.int .i64 (nums j))
  froG : ∀ o, W.frozen? ⟨gG, o, none⟩ = false
  froN : ∀ o, W.frozen? ⟨gN, o, none⟩ = false
  sG : gG < W.heap.size
  sN : gN < W.heap.size
theorem Wg.step {W3 W W' : World} {gG gN n : Nat} {gone : Nat → Bool} {nums : Nat → Nat} (h : Wg W3 W gG gN n gone nums) (hb : Below W.heap.size W W') : Wg W3 W' gG gN n gone nums :=
  ⟨h.below.trans (hb.mono h.below.size), fun j hj => cell_kept (fun hl => hb.block _ hl) (h.gon j hj), fun j hj => cell_kept (fun hl => hb.block _ hl) (h.num j hj), fun o => (World.frozen?_of_block (a := ⟨gG, o, none⟩) (hb.block _ h.sG)).trans (h.froG o), fun o => (World.frozen?_of_block (a := ⟨gN, o, none⟩) (hb.block _ h.sN)).trans (h.froN o), Nat.lt_of_lt_of_le h.sG hb.size, Nat.lt_of_lt_of_le h.sN hb.size⟩
theorem Wg.putG {W3 W : World} {gG gN n : Nat} {gone : Nat → Bool} {nums : Nat → Nat} (h : Wg W3 W gG gN n gone nums) (hG : W3.heap.size ≤ gG) (hne : gG ≠ gN) {i : Nat} (hi : i < n) : Wg W3 (W.setCell ⟨gG, i, none⟩ (.bool true)) gG gN n (setT gone i) nums := by
  refine ⟨⟨h.below.os, h.below.tape, h.below.output, by simp [World.setCell]; exact h.below.size, fun b hb => (Below.heap_setCell _ _ _ _ (by show b ≠ gG; omega)).trans (h.below.block b hb)⟩, fun j hj => ?_, fun j hj => ?_, fun o => (World.frozen?_setCell _ _ _ _).trans (h.froG o), fun o => (World.frozen?_setCell _ _ _ _).trans (h.froN o), by simp [World.setCell]; exact h.sG, by simp [World.setCell]; exact h.sN⟩
  · unfold setT
    by_cases e : j = i
    · subst e
      rw [if_pos rfl]
      exact World.cell?_setCell_same _ _ _ (h.gon j hj)
    · rw [if_neg e]
      exact (World.cell?_setCell_other _ _ _ _ (fun q => e (by injection q with q1 q2; exact q2.symm))).trans (h.gon j hj)
  · exact (World.cell?_setCell_other _ _ _ _ (fun q => by injection q with q1 q2; exact hne q1)).trans (h.num j hj)
def updP (f : Nat → Nat) (i k : Nat) : Nat → Nat := fun j => if j = i then k else f j
theorem Wg.putN {W3 W : World} {gG gN n : Nat} {gone : Nat → Bool} {nums : Nat → Nat} (h : Wg W3 W gG gN n gone nums) (hN : W3.heap.size ≤ gN) (hne : gG ≠ gN) {i : Nat} (hi : i < n) (x : Nat) : Wg W3 (W.setCell ⟨gN, i, none⟩ (.int .i64 x)) gG gN n gone (updP nums i x) := by
  refine ⟨⟨h.below.os, h.below.tape, h.below.output, by simp [World.setCell]; exact h.below.size, fun b hb => (Below.heap_setCell _ _ _ _ (by show b ≠ gN; omega)).trans (h.below.block b hb)⟩, fun j hj => ?_, fun j hj => ?_, fun o => (World.frozen?_setCell _ _ _ _).trans (h.froG o), fun o => (World.frozen?_setCell _ _ _ _).trans (h.froN o), by simp [World.setCell]; exact h.sG, by simp [World.setCell]; exact h.sN⟩
  · exact (World.cell?_setCell_other _ _ _ _ (fun q => by injection q with q1 q2; exact hne q1.symm)).trans (h.gon j hj)
  · unfold updP
    by_cases e : j = i
    · subst e
      rw [if_pos rfl]
      exact World.cell?_setCell_same _ _ _ (h.num j hj)
    · rw [if_neg e]
      exact (World.cell?_setCell_other _ _ _ _ (fun q => e (by injection q with q1 q2; exact q2.symm))).trans (h.num j hj)
end Go.Proofs.YtbaljljlahhkfaaGreatDoor
