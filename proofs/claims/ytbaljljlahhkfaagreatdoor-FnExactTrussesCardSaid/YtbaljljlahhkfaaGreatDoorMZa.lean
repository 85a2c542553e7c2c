/- Texts of one proof, joined in their order: each bears its own word of what it holds and on what condition. -/
import Derived.Test.YtbaljljlahhkfaaGreatDoorMYi
import Derived.DeepKeys4
set_option linter.unusedVariables false
set_option linter.unusedSimpArgs false
/- Pairs of int64 as a map's keys; sets of such pairs, of the call's own. No condition. -/
set_option linter.unusedVariables false
set_option linter.unusedSimpArgs false
namespace Go.Proofs.YtbaljljlahhkfaaGreatDoor
open Go.RowKit Go.Sort Go.WideMaps
open Go.Maps (Keyed)

set_option maxRecDepth 100000
theorem laidC : laidOutB Tryz.prog = true := by kernel_rfl
theorem rowC : (89 : TypeId) < Tryz.prog.types.size := of_decide_eq_true (by kernel_rfl)
theorem wideC : (match Tryz.prog.underlying 89 with | some (.array _ _) | some (.struct _) => true | _ => false) = true := by rw [Tryz.underlying89]
theorem keyedC : Keyed Tryz.prog 89 := Keyed.of_law (deep_law_laid laidC (m := 2) (by omega) rowC (by kernel_rfl) wideC)
theorem cellsC : Tryz.prog.cellsOf 89 = 2 := by kernel_rfl
theorem cells2 : Tryz.prog.cellsOf 2 = 1 := by kernel_rfl
theorem typeC : Tryz.prog.keyType 89 = true := by kernel_rfl
def cpV (p : Int × Int) : Value := .agg #[.int .i64 p.1, .int .i64 p.2]
def kC (p : Int × Int) : Lit := .string (keyBytes [.int .i64 p.1, .int .i64 p.2])
def I64P (p : Int × Int) : Prop := I64 p.1 ∧ I64 p.2
theorem lits_int (d : Nat) (c : Value) : Tryz.prog.keyLits (d + 1) 2 [c] = match c with
    | .int q n => if q = .i64 ∧ (Lit.int .i64 n).wf = true then some [.int .i64 n] else none
    | _ => none := by
  unfold Program.keyLits
  rw [Tryz.underlying2]
  cases c <;> simp
theorem lits_cp (d : Nat) (c0 c1 : Value) : Tryz.prog.keyLits (d + 2) 89 [c0, c1] = (Tryz.prog.keyLits (d + 1) 2 [c0]).bind fun a => (Tryz.prog.keyLits (d + 1) 2 [c1]).map fun b => a ++ b := by
  conv => lhs; unfold Program.keyLits
  rw [Tryz.underlying89]
  simp [cellsC, cells2]
  cases Tryz.prog.keyLits (d + 1) 2 [c0] <;> cases Tryz.prog.keyLits (d + 1) 2 [c1] <;> simp
theorem size_two : ∃ m, Tryz.prog.types.size + 1 = m + 2 := ⟨Tryz.prog.types.size - 1, by have : 0 < Tryz.prog.types.size := Nat.lt_of_le_of_lt (Nat.zero_le _) rowC; omega⟩
theorem key_kC {p : Int × Int} (h : I64P p) : keyOf Tryz.prog 89 (cpV p) = some (kC p) := by
  unfold keyOf
  rw [Tryz.underlying89]
  obtain ⟨m, hm⟩ := size_two
  have hf : (cpV p).formed Tryz.prog 89 = true := by simp [cpV, Value.formed, Tryz.underlying89, cellsC]
  have hl : Tryz.prog.keyLits (Tryz.prog.types.size + 1) 89 (cpV p).cells.toList = some [.int .i64 p.1, .int .i64 p.2] := by
    rw [hm]
    show Tryz.prog.keyLits (m + 2) 89 [.int .i64 p.1, .int .i64 p.2] = _
    rw [lits_cp, lits_int, lits_int]
    simp [h.1.wf, h.2.wf]
  simp only [typeC, hf, Bool.and_self, if_true, hl, Option.map_some]
  rfl
theorem kC_inj {p q : Int × Int} (hp : I64P p) (hq : I64P q) (h : kC p = kC q) : p = q := by
  have := keyedC.inj (key_kC hp) (h ▸ key_kC hq)
  unfold cpV at this
  injection this with this
  have := Array.mk.inj this
  simp at this
  exact Prod.ext this.1 this.2
theorem lits_int_inv {d : Nat} {c : Value} {l : List Lit} (h : Tryz.prog.keyLits (d + 1) 2 [c] = some l) : ∃ n, c = .int .i64 n ∧ I64 n ∧ l = [.int .i64 n] := by
  rw [lits_int] at h
  split at h
  · rename_i q n
    split at h
    · rename_i hq
      obtain ⟨rfl, hw⟩ := hq
      injection h with h
      exact ⟨n, rfl, i64_wf hw, h.symm⟩
    · cases h
  · cases h
theorem key_inv {v : Value} {kl : Lit} (h : keyOf Tryz.prog 89 v = some kl) : ∃ p, v = cpV p ∧ kl = kC p ∧ I64P p := by
  unfold keyOf at h
  rw [Tryz.underlying89] at h
  obtain ⟨m, hm⟩ := size_two
  simp only [typeC, Bool.true_and] at h
  split at h
  · rename_i hf
    cases v <;> simp [Value.formed, Tryz.underlying89, cellsC] at hf
    rename_i cs
    obtain ⟨l⟩ := cs
    have hl : l.length = 2 := hf
    obtain ⟨c0, c1, rfl⟩ : ∃ c0 c1, l = [c0, c1] := by
      match l, hl with
      | [c0, c1], _ => exact ⟨c0, c1, rfl⟩
    have h : (Tryz.prog.keyLits (Tryz.prog.types.size + 1) 89 [c0, c1]).map (fun ls => Lit.string (keyBytes ls)) = some kl := h
    rw [hm, lits_cp] at h
    obtain ⟨ls, h1, h2⟩ := Option.map_eq_some_iff.1 h
    obtain ⟨la, h3, h4⟩ := Option.bind_eq_some_iff.1 h1
    obtain ⟨lb, h5, h6⟩ := Option.map_eq_some_iff.1 h4
    obtain ⟨a, rfl, ha, rfl⟩ := lits_int_inv h3
    obtain ⟨b, rfl, hb, rfl⟩ := lits_int_inv h5
    subst h6
    subst h2
    exact ⟨(a, b), rfl, rfl, ha, hb⟩
  · cases h
theorem kC_lit {p : Int × Int} (h : I64P p) : WideAt.IsKeyLit (kC p) := keyedC.key (key_kC h)

/-! ### sets of pairs -/
structure SetC (D : DataW Unit) (S : Int × Int → Bool) : Prop where
  form : ∃ l : List (Lit × DataW Unit), D = .map l ∧ ∀ p ∈ l, ∃ x, I64P x ∧ p.1 = kC x
  has : ∀ x, I64P x → Maps.has D (kC x) = S x
  at' : ∀ x, I64P x → D.atKey (kC x) (.lit (.bool false)) = .lit (.bool (S x))
theorem SetC.none : SetC (.map []) (fun _ => false) := ⟨⟨[], rfl, by simp⟩, fun _ _ => rfl, fun _ _ => rfl⟩
theorem SetC.put {D : DataW Unit} {S : Int × Int → Bool} (h : SetC D S) {x : Int × Int} (hx : I64P x) : SetC (D.put (kC x) (.lit (.bool true))) (fun y => decide (y = x) || S y) := by
  obtain ⟨l, rfl, h2⟩ := h.form
  refine ⟨⟨_, DataW.put_eq _ _ _, fun p hp => ?_⟩, fun y hy => ?_, fun y hy => ?_⟩
  · unfold ChangeMaps.putKey at hp
    rcases ChangeMaps.mem_insert_iff.1 hp with e | e
    · exact ⟨x, hx, by rw [e]⟩
    · exact h2 p (List.mem_filter.1 e).1
  · by_cases e : y = x
    · subst e
      rw [Maps.has_put_same ⟨_, rfl⟩ (kC_lit hx)]
      simp
    · rw [Maps.has_put_other (fun q => e (kC_inj hy hx q)), h.has y hy]
      simp [e]
  · by_cases e : y = x
    · subst e
      rw [Maps.atKey_put_same ⟨_, rfl⟩ (kC_lit hx)]
      simp
    · rw [Maps.atKey_put_other (fun q => e (kC_inj hy hx q)), h.at' y hy]
      simp [e]
theorem SetC.del {D : DataW Unit} {S : Int × Int → Bool} (h : SetC D S) {x : Int × Int} (hx : I64P x) : SetC (D.del (kC x)) (fun y => S y && !decide (y = x)) := by
  obtain ⟨l, rfl, h2⟩ := h.form
  refine ⟨⟨_, DataW.del_eq _ _, fun p hp => h2 p (List.mem_filter.1 hp).1⟩, fun y hy => ?_, fun y hy => ?_⟩
  · by_cases e : y = x
    · subst e
      rw [Maps.has_del_same]
      simp
    · rw [Maps.has_del_other (fun q => e (kC_inj hy hx q)), h.has y hy]
      simp [e]
  · by_cases e : y = x
    · subst e
      rw [Maps.atKey_del_same]
      simp
    · rw [Maps.atKey_del_other (fun q => e (kC_inj hy hx q)), h.at' y hy]
      simp [e]
theorem SetC.zero {D : DataW Unit} {S : Int × Int → Bool} (h : SetC D S) (hs : Maps.size D = 0) {x : Int × Int} (hx : I64P x) : S x = false := by
  obtain ⟨l, rfl, _⟩ := h.form
  have : l = [] := List.length_eq_zero_iff.1 hs
  subst this
  exact (h.has x hx).symm
theorem SetC.some {D : DataW Unit} {S : Int × Int → Bool} (h : SetC D S) (hs : 0 < Maps.size D) : ∃ x, I64P x ∧ S x = true := by
  obtain ⟨l, rfl, h2⟩ := h.form
  cases l with
  | nil => exact absurd hs (Nat.lt_irrefl _)
  | cons p l =>
    obtain ⟨x, hx, e⟩ := h2 p (by simp)
    refine ⟨x, hx, (h.has x hx).symm.trans ?_⟩
    show List.any _ _ = true
    rw [List.any_eq_true]
    exact ⟨p, by simp, by rw [e]; exact WideAt.sameKey_self (kC_lit hx)⟩
theorem SetC.less {w : World} {b n : Nat} {R : Value → Option (DataW Unit × List MemPlace)} {D : DataW Unit} {S : Int × Int → Bool} (h : SetC D S) (ho : w.ownsMap Tryz.prog 89 R b n D) {x : Int × Int} (hx : I64P x) (hs : S x = true) : Maps.size (D.del (kC x)) + 1 = Maps.size D := by
  have := Maps.size_del (k := kC x) (ho.tidy keyedC)
  rwa [h.has x hx, hs, if_pos rfl] at this
theorem setc_look {w : World} {b n : Nat} {D : DataW Unit} {S : Int × Int → Bool} (h : SetC D S) (ho : w.ownsMap Tryz.prog 89 (plainElem Tryz.prog 4) b n D) {x : Int × Int} (hx : I64P x) : (Instr.lookup 86 (.map (some b)) (cpV x) false).run Tryz.prog w = .ok (.bool (S x)) w := by
  obtain ⟨v, ps, hr, hv⟩ := ho.lookup keyedC Tryz.underlying86 (zero4 w) (zd := .lit (.bool false)) (zp := []) (plainElem_bool und4 false) (key_kC hx)
  obtain ⟨y, rfl, e⟩ := plainElem_bool_inv hv
  rw [h.at' x hx] at e
  have e2 : (DataW.lit (H := Unit) (.bool (S x))) = .lit (.bool y) := congrArg Prod.fst e
  have e4 : S x = y := congrArg litB e2
  rw [e4]
  exact hr
theorem setc_len {w : World} {b n : Nat} {D : DataW Unit} (ho : w.ownsMap Tryz.prog 89 (plainElem Tryz.prog 4) b n D) (ty : TypeId) : (Builtin.len_ #[86] ty #[.map (some b)]).run Tryz.prog w = .ok (.int .i64 (Maps.size D)) w := ho.len Tryz.underlying86 ty
theorem keys_leC : ∀ (l : List (Lit × DataW Unit)) (ks : List (Int × Int)), l.Pairwise (fun p q => p.1 ≠ q.1) → (∀ p ∈ l, ∃ x ∈ ks, p.1 = kC x) → l.length ≤ ks.length
  | [], ks, _, _ => Nat.zero_le _
  | p :: l, ks, hp, hk => by
    obtain ⟨x, hx, he⟩ := hk p (by simp)
    rw [List.pairwise_cons] at hp
    have := keys_leC l (ks.erase x) hp.2 (fun q hq => by
      obtain ⟨y, hy, hj⟩ := hk q (by simp [hq])
      refine ⟨y, (List.mem_erase_of_ne ?_).2 hy, hj⟩
      rintro rfl
      exact hp.1 q hq (he.trans hj.symm))
    rw [List.length_erase_of_mem hx] at this
    have : 0 < ks.length := List.length_pos_of_mem hx
    simp only [List.length_cons]
    omega
theorem fitC {w : World} {b n : Nat} {R : Value → Option (DataW Unit × List MemPlace)} {l : List (Lit × DataW Unit)} {ks : List (Int × Int)} (ho : w.ownsMap Tryz.prog 89 R b n (.map l)) (hm : ∀ p ∈ l, ∃ x ∈ ks, p.1 = kC x) : w.ownsMap Tryz.prog 89 R b ks.length (.map l) := by
  obtain ⟨l2, e2, hd, _⟩ := ho.entries keyedC
  cases e2
  have hlen := keys_leC _ ks hd hm
  obtain ⟨es, clock, hb, F, hs, hD⟩ := ho
  refine ⟨es, clock, hb, F, ?_, hD⟩
  injection hD with hD
  rw [hD, length_sorted] at hlen
  simpa using hlen
theorem setc_fit {w : World} {b n : Nat} {R : Value → Option (DataW Unit × List MemPlace)} {D : DataW Unit} {S : Int × Int → Bool} {ks : List (Int × Int)} (h : SetC D S) (ho : w.ownsMap Tryz.prog 89 R b n D) (hs : ∀ x, S x = true → x ∈ ks) : w.ownsMap Tryz.prog 89 R b ks.length D := by
  obtain ⟨l, rfl, h2⟩ := h.form
  refine fitC ho (fun p hp => ?_)
  obtain ⟨x, hx, e⟩ := h2 p hp
  refine ⟨x, hs x ((h.has x hx).symm.trans ?_), e⟩
  show List.any _ _ = true
  rw [List.any_eq_true]
  exact ⟨p, hp, by rw [e]; exact WideAt.sameKey_self (kC_lit hx)⟩
theorem setc_store {w : World} {b n : Nat} {D : DataW Unit} (ho : w.ownsMap Tryz.prog 89 (plainElem Tryz.prog 4) b n D) (hn : n < 1048576) {x : Int × Int} (hx : I64P x) :
    ∃ w', (Instr.mapUpdate 86 (.map (some b)) (cpV x) (.bool true)).run Tryz.prog w = .ok () w' ∧ w'.ownsMap Tryz.prog 89 (plainElem Tryz.prog 4) b (n + 1) (D.put (kC x) (.lit (.bool true))) ∧ w.grownBy w' (some b) :=
  ho.update keyedC Tryz.underlying86 (Nat.lt_of_lt_of_le hn (by decide)) (key_kC hx) (plainElem_bool und4 true)

/-! ### numbers at pairs -/
def updC (f : Int × Int → Nat) (x : Int × Int) (k : Nat) : Int × Int → Nat := fun y => if y = x then k else f y
def MapC (w : World) (b : Nat) (ks : List (Int × Int)) (f : Int × Int → Nat) : Prop :=
  ∃ l : List (Lit × DataW Unit), w.ownsMap Tryz.prog 89 (plainElem Tryz.prog 2) b ks.length (.map l) ∧ (∀ p ∈ l, ∃ x ∈ ks, p.1 = kC x) ∧ ∀ x, I64P x → (DataW.map l).atKey (kC x) (.lit (.int .i64 0)) = .lit (.int .i64 (f x : Nat))
theorem MapC.made (w : World) (ks : List (Int × Int)) : MapC (w.alloc (.map #[] 0)) w.heap.size ks (fun _ => 0) := ⟨[], (World.ownsMap_made w _ _ _).mono (Nat.zero_le _), by simp, fun _ _ => rfl⟩
theorem MapC.lt {w : World} {b : Nat} {ks : List (Int × Int)} {f : Int × Int → Nat} (h : MapC w b ks f) : b < w.heap.size := h.elim fun _ h => h.1.lt
theorem MapC.below {w w' : World} {b : Nat} {ks : List (Int × Int)} {f : Int × Int → Nat} (h : MapC w b ks f) (hb : w'.heap[b]? = w.heap[b]?) : MapC w' b ks f := by
  obtain ⟨l, ⟨es, clock, h1, h2⟩, h3⟩ := h
  exact ⟨l, ⟨es, clock, hb.trans h1, h2⟩, h3⟩
theorem MapC.look {w : World} {b : Nat} {ks : List (Int × Int)} {f : Int × Int → Nat} (h : MapC w b ks f) {x : Int × Int} (hx : I64P x) :
    (Instr.lookup 87 (.map (some b)) (cpV x) false).run Tryz.prog w = .ok (.int .i64 (f x : Nat)) w := by
  obtain ⟨l, h1, _, h2⟩ := h
  obtain ⟨c, hr, hc, _⟩ := h1.lookup_int keyedC Tryz.underlying87 Tryz.underlying2 (zero2 w) (key_kC hx)
  rw [h2 x hx] at hc
  cases hc
  exact hr
theorem MapC.put {w : World} {b : Nat} {ks : List (Int × Int)} {f : Int × Int → Nat} (h : MapC w b ks f) (hn : ks.length < 1048576) {x : Int × Int} (hk : x ∈ ks) (hx : I64P x) (k : Nat) (hk2 : k ≤ 1000000) :
    ∃ w', (Instr.mapUpdate 87 (.map (some b)) (cpV x) (.int .i64 (k : Int))).run Tryz.prog w = .ok () w' ∧ MapC w' b ks (updC f x k) ∧ w.grownBy w' (some b) := by
  obtain ⟨l, h1, hm, h2⟩ := h
  obtain ⟨w', hr, ho, hg⟩ := h1.update keyedC Tryz.underlying87 (by unfold maxLen; omega) (key_kC hx) (plainElem_int Tryz.underlying2 (show I64 (k : Int) from ⟨by omega, by omega⟩).wf)
  have hm2 : ∀ p ∈ ChangeMaps.putKey (kC x) (.lit (.int .i64 (k : Int))) l, ∃ x ∈ ks, p.1 = kC x := fun p hp => by
    unfold ChangeMaps.putKey at hp
    rcases ChangeMaps.mem_insert_iff.1 hp with e | e
    · exact ⟨x, hk, by rw [e]⟩
    · exact hm p (List.mem_filter.1 e).1
  rw [DataW.put_eq] at ho
  refine ⟨w', hr, ⟨_, fitC ho hm2, hm2, fun y hy => ?_⟩, hg⟩
  rw [← DataW.put_eq]
  show _ = DataW.lit (Lit.int .i64 ((if y = x then k else f y : Nat) : Int))
  by_cases hj : y = x
  · subst hj
    rw [if_pos rfl, Maps.atKey_put_same ⟨_, rfl⟩ (kC_lit hx)]
  · rw [if_neg hj, Maps.atKey_put_other (fun q => hj (kC_inj hy hx q)), h2 y hy]
/-! ### the pair of two, the lesser first -/
def nm (a b : Int) : Int × Int := (min a b, max a b)
theorem nm_comm (a b : Int) : nm a b = nm b a := by unfold nm; rw [Int.min_comm, Int.max_comm]
theorem nm_I64 {a b : Int} (ha : I64 a) (hb : I64 b) : I64P (nm a b) := by
  unfold nm
  rcases Int.le_total a b with h | h
  · rw [Int.min_eq_left h, Int.max_eq_right h]; exact ⟨ha, hb⟩
  · rw [Int.min_eq_right h, Int.max_eq_left h]; exact ⟨hb, ha⟩
theorem nm_cases (a b : Int) : (a ≤ b ∧ nm a b = (a, b)) ∨ (b ≤ a ∧ nm a b = (b, a)) := by
  unfold nm
  rcases Int.le_total a b with h | h
  · left; rw [Int.min_eq_left h, Int.max_eq_right h]; exact ⟨h, rfl⟩
  · right; rw [Int.min_eq_right h, Int.max_eq_left h]; exact ⟨h, rfl⟩
end Go.Proofs.YtbaljljlahhkfaaGreatDoor
/- Trusses: what the two say, plain. No walk here. -/
set_option linter.unusedVariables false
set_option linter.unusedSimpArgs false
namespace Go.Proofs.YtbaljljlahhkfaaGreatDoor
open Go.RowKit Go.Sort

/-- two neighbours, the lesser first -/
def PrP (es : List Ed) (p : Int × Int) : Prop := p.1 < p.2 ∧ IsNb es p.1 p.2
/-- those that make a triple with the two, all of T -/
def CPr (es : List Ed) (T : Int × Int → Prop) (p : Int × Int) (c : Int) : Prop := IsNb es p.1 c ∧ T (nm p.1 c) ∧ T (nm p.2 c)
theorem CPr.mono {es : List Ed} : ∀ S S' : Int × Int → Prop, (∀ v, S v → S' v) → ∀ v u, CPr es S v u → CPr es S' v u := fun S S' h v u q => ⟨q.1, h _ q.2.1, h _ q.2.2⟩
theorem isNb_comm {es : List Ed} {a b : Int} (h : IsNb es a b) : IsNb es b a := by
  obtain ⟨e, he, hne, q⟩ := h
  exact ⟨e, he, hne, q.elim (fun q => .inr ⟨q.2, q.1⟩) (fun q => .inl ⟨q.2, q.1⟩)⟩
theorem isNb_ne {es : List Ed} {a b : Int} (h : IsNb es a b) : a ≠ b := by
  obtain ⟨e, he, hne, ⟨rfl, rfl⟩ | ⟨rfl, rfl⟩⟩ := h
  · exact hne
  · exact fun q => hne q.symm
theorem isNb_in {g : Gr} (h : Gw g) {a b : Int} (q : IsNb g.edges a b) : a ∈ idsOf g.nodes ∧ b ∈ idsOf g.nodes := by
  obtain ⟨e, he, _, z⟩ := q
  obtain ⟨m1, m2⟩ := gOk_mem h he
  rcases z with ⟨rfl, rfl⟩ | ⟨rfl, rfl⟩
  · exact ⟨m1, m2⟩
  · exact ⟨m2, m1⟩
theorem prp_nm {es : List Ed} {a b : Int} : PrP es (nm a b) ↔ IsNb es a b := by
  unfold PrP
  rcases nm_cases a b with ⟨h, e⟩ | ⟨h, e⟩ <;> rw [e]
  · exact ⟨fun q => q.2, fun q => ⟨by have := isNb_ne q; omega, q⟩⟩
  · exact ⟨fun q => isNb_comm q.2, fun q => ⟨by have := isNb_ne q; omega, isNb_comm q⟩⟩
theorem prp_self {es : List Ed} {p : Int × Int} (h : PrP es p) : nm p.1 p.2 = p := by
  have h1 := h.1
  unfold nm
  rw [Int.min_eq_left (by omega), Int.max_eq_right (by omega)]
theorem CPr.mem {g : Gr} (h : Gw g) {T : Int × Int → Prop} {p : Int × Int} {c : Int} (q : CPr g.edges T p c) : c ∈ idsOf g.nodes := (isNb_in h q.1).2
theorem cpr_card {es : List Ed} {L : Int → List Int} (hm : ∀ a x, x ∈ L a ↔ IsNb es a x) (hn : ∀ a, (L a).Nodup) (S : Int × Int → Bool) (p : Int × Int) : CardOf (CPr es (fun x => S x = true) p) ((L p.1).filter fun c => S (nm p.1 c) && S (nm p.2 c)).length :=
  ⟨(L p.1).filter fun c => S (nm p.1 c) && S (nm p.2 c), (hn p.1).filter _, fun x => by rw [List.mem_filter, hm, Bool.and_eq_true]; rfl, rfl⟩
def trOf (es : List Ed) (f : Int × Int → Nat) : List Pt := es.map fun e => ⟨e.id, if e.src = e.dst then 0 else ((f (nm e.src e.dst) + 2 : Nat) : Int)⟩
def TrussX (g : Gr) (xs : List Pt) : Prop := (gOk g = false → xs = []) ∧ (gOk g = true → ∃ f : Int × Int → Nat, (∀ p, PrP g.edges p → CoreIs (PrP g.edges) (CPr g.edges) p (f p)) ∧ xs = trOf g.edges f)
theorem TrussX.same {g : Gr} {xs ys : List Pt} (h : TrussX g xs) (k : TrussX g ys) : xs = ys := by
  cases hg : gOk g with
  | false => rw [h.1 hg, k.1 hg]
  | true =>
    obtain ⟨f, hf, rfl⟩ := h.2 hg
    obtain ⟨f', hf', rfl⟩ := k.2 hg
    unfold trOf
    refine List.map_congr_left (fun e he => ?_)
    by_cases q : e.src = e.dst
    · rw [if_pos q, if_pos q]
    · have hp : PrP g.edges (nm e.src e.dst) := prp_nm.2 ⟨e, he, q, .inl ⟨rfl, rfl⟩⟩
      rw [CoreIs.same (hf _ hp) (hf' _ hp)]
theorem TrussX.len {g : Gr} {xs : List Pt} (h : TrussX g xs) : xs.length ≤ 400 := by
  cases hg : gOk g with
  | false => rw [h.1 hg]; simp
  | true =>
    obtain ⟨f, _, rfl⟩ := h.2 hg
    unfold trOf
    rw [List.length_map]
    exact (gOk_parts hg).2.1
def TrussR (g : Gr) (w : World) (e : Ending) (w' : World) : Prop := ∃ xs, TrussX g xs ∧ PtsR xs w e w'
/-- all pairs of these -/
def prs (ids : List Int) : List (Int × Int) := ids.flatMap fun a => ids.map fun b => (a, b)
theorem mem_prs {ids : List Int} {p : Int × Int} (h1 : p.1 ∈ ids) (h2 : p.2 ∈ ids) : p ∈ prs ids := by
  unfold prs
  rw [List.mem_flatMap]
  exact ⟨p.1, h1, List.mem_map.2 ⟨p.2, h2, rfl⟩⟩
theorem prs_len (ids : List Int) (n : Nat) (h : ids.length ≤ n) : (prs ids).length ≤ n * n := by
  unfold prs
  have : ∀ l : List Int, (l.flatMap fun a => ids.map fun b => (a, b)).length = l.length * ids.length := fun l => by
    induction l with
    | nil => simp
    | cons a l ih => rw [List.flatMap_cons, List.length_append, ih, List.length_map, List.length_cons, Nat.succ_mul, Nat.add_comm]
  rw [this]
  exact Nat.mul_le_mul h h

/-! ### places and pairs of Ids -/
def SM (ns : List Nd) (M : Nat → Nat → Bool) (p : Int × Int) : Prop := ∃ (i j : Nat) (hi : i < ns.length) (hj : j < ns.length), i < j ∧ M i j = true ∧ p = (ns[i].id, ns[j].id)
structure MOk (g : Gr) (M : Nat → Nat → Bool) : Prop where
  sym : ∀ i j, i < g.nodes.length → j < g.nodes.length → M i j = M j i
  sub : ∀ i j, i < g.nodes.length → j < g.nodes.length → M i j = true → lnks g.nodes g.edges i j = true
theorem MOk.ne {g : Gr} (h : Gw g) {M : Nat → Nat → Bool} (hM : MOk g M) {i j : Nat} (hi : i < g.nodes.length) (hj : j < g.nodes.length) (q : M i j = true) : i ≠ j := fun e => by
  have := isNb_ne ((lnks_nb h hi hj).1 (hM.sub i j hi hj q))
  subst e
  exact this rfl
theorem mok_start {g : Gr} (h : Gw g) : MOk g (lnks g.nodes g.edges) := ⟨fun i j hi hj => by
  rw [Bool.eq_iff_iff, lnks_nb h hi hj, lnks_nb h hj hi]
  exact ⟨isNb_comm, isNb_comm⟩, fun _ _ _ _ q => q⟩
theorem nm_places {g : Gr} (h : Gw g) {i j : Nat} (hi : i < g.nodes.length) (hj : j < g.nodes.length) (hij : i < j) : nm g.nodes[i].id g.nodes[j].id = (g.nodes[i].id, g.nodes[j].id) := by
  have := h.rise i j hj hij
  unfold nm
  rw [Int.min_eq_left (by omega), Int.max_eq_right (by omega)]
theorem sm_nm {g : Gr} (h : Gw g) {M : Nat → Nat → Bool} (hM : MOk g M) {i j : Nat} (hi : i < g.nodes.length) (hj : j < g.nodes.length) : SM g.nodes M (nm g.nodes[i].id g.nodes[j].id) ↔ M i j = true := by
  constructor
  · rintro ⟨i', j', hi', hj', hlt, q, e⟩
    rcases nm_cases g.nodes[i].id g.nodes[j].id with ⟨_, z⟩ | ⟨_, z⟩
    · rw [z, Prod.mk.injEq] at e
      have e1 := gOk_inj h hi hi' e.1
      have e2 := gOk_inj h hj hj' e.2
      subst e1; subst e2
      exact q
    · rw [z, Prod.mk.injEq] at e
      have e1 := gOk_inj h hj hi' e.1
      have e2 := gOk_inj h hi hj' e.2
      subst e1; subst e2
      rw [hM.sym _ _ hi hj]
      exact q
  · intro q
    rcases Nat.lt_trichotomy i j with z | z | z
    · exact ⟨i, j, hi, hj, z, q, nm_places h hi hj z⟩
    · exact absurd z (hM.ne h hi hj q)
    · exact ⟨j, i, hj, hi, z, by rw [hM.sym _ _ hj hi]; exact q, by rw [nm_comm]; exact nm_places h hj hi z⟩
theorem sm_all {g : Gr} (h : Gw g) (p : Int × Int) : SM g.nodes (lnks g.nodes g.edges) p ↔ PrP g.edges p := by
  constructor
  · rintro ⟨i, j, hi, hj, hlt, q, rfl⟩
    exact ⟨h.rise i j hj hlt, (lnks_nb h hi hj).1 q⟩
  · intro q
    obtain ⟨m1, m2⟩ := isNb_in h q.2
    obtain ⟨i, hi, _, e1⟩ := gOk_pos h m1
    obtain ⟨j, hj, _, e2⟩ := gOk_pos h m2
    have := (sm_nm h (mok_start h) hi hj).2 ((lnks_nb h hi hj).2 (by rw [e1, e2]; exact q.2))
    rwa [e1, e2, prp_self q] at this
theorem tri_cnt {g : Gr} (h : Gw g) {M : Nat → Nat → Bool} (hM : MOk g M) {a b d : Nat} (ha : a < g.nodes.length) (hb : b < g.nodes.length) (hc : CardOf (fun k => k < g.nodes.length ∧ M a k = true ∧ M b k = true) d) : CardOf (CPr g.edges (SM g.nodes M) (nm g.nodes[a].id g.nodes[b].id)) d := by
  have key : ∀ x y : Nat, (hx : x < g.nodes.length) → (hy : y < g.nodes.length) → ∀ q, CPr g.edges (SM g.nodes M) (g.nodes[x].id, g.nodes[y].id) q ↔ ∃ (k : Nat) (hk : k < g.nodes.length), M x k = true ∧ M y k = true ∧ g.nodes[k].id = q := fun x y hx hy q => by
    constructor
    · rintro ⟨q1, q2, q3⟩
      obtain ⟨k, hk, _, rfl⟩ := gOk_pos h (isNb_in h q1).2
      exact ⟨k, hk, (sm_nm h hM hx hk).1 q2, (sm_nm h hM hy hk).1 q3, rfl⟩
    · rintro ⟨k, hk, q2, q3, rfl⟩
      exact ⟨(lnks_nb h hx hk).1 (hM.sub _ _ hx hk q2), (sm_nm h hM hx hk).2 q2, (sm_nm h hM hy hk).2 q3⟩
  obtain ⟨L, h1, h2, h3⟩ := hc
  have hlt : ∀ p ∈ L, p < g.nodes.length := fun p hp => ((h2 p).1 hp).1
  refine ⟨L.map fun p => (g.nodes.getD p n0).id, ?_, fun q => ?_, by rw [List.length_map]; exact h3⟩
  · rw [List.nodup_iff_pairwise_ne, List.pairwise_map]
    refine List.Pairwise.imp_of_mem ?_ (List.nodup_iff_pairwise_ne.1 h1)
    intro p q hp hq hne e
    rw [getD_eq (hlt p hp), getD_eq (hlt q hq)] at e
    exact hne (gOk_inj h _ _ e)
  · rw [List.mem_map]
    have all : (∃ p ∈ L, (g.nodes.getD p n0).id = q) ↔ ∃ (k : Nat) (hk : k < g.nodes.length), M a k = true ∧ M b k = true ∧ g.nodes[k].id = q := by
      constructor
      · rintro ⟨p, hp, rfl⟩
        obtain ⟨z1, z2, z3⟩ := (h2 p).1 hp
        exact ⟨p, z1, z2, z3, by rw [getD_eq z1]⟩
      · rintro ⟨k, hk, z2, z3, rfl⟩
        exact ⟨k, (h2 k).2 ⟨hk, z2, z3⟩, by rw [getD_eq hk]⟩
    rw [all]
    rcases nm_cases g.nodes[a].id g.nodes[b].id with ⟨_, z⟩ | ⟨_, z⟩
    · rw [z, key a b ha hb]
    · rw [z, key b a hb ha]
      constructor
      · rintro ⟨k, hk, z2, z3, e⟩; exact ⟨k, hk, z3, z2, e⟩
      · rintro ⟨k, hk, z2, z3, e⟩; exact ⟨k, hk, z3, z2, e⟩
def setF (M : Nat → Nat → Bool) (a b : Nat) : Nat → Nat → Bool := fun i j => if (i = a ∧ j = b) ∨ (i = b ∧ j = a) then false else M i j
theorem setF_at (M : Nat → Nat → Bool) (a b : Nat) : setF M a b a b = false := by unfold setF; rw [if_pos (.inl ⟨rfl, rfl⟩)]
theorem mok_drop {g : Gr} {M : Nat → Nat → Bool} (hM : MOk g M) (a b : Nat) : MOk g (setF M a b) := by
  refine ⟨fun i j hi hj => ?_, fun i j hi hj q => ?_⟩
  · unfold setF
    by_cases e : (i = a ∧ j = b) ∨ (i = b ∧ j = a)
    · rw [if_pos e, if_pos (e.elim (fun q => .inr ⟨q.2, q.1⟩) (fun q => .inl ⟨q.2, q.1⟩))]
    · rw [if_neg e, if_neg (fun q => e (q.elim (fun q => .inr ⟨q.2, q.1⟩) (fun q => .inl ⟨q.2, q.1⟩)))]
      exact hM.sym i j hi hj
  · unfold setF at q
    split at q
    · cases q
    · exact hM.sub i j hi hj q
theorem sm_less {g : Gr} (h : Gw g) {M : Nat → Nat → Bool} (hM : MOk g M) {a b : Nat} (ha : a < g.nodes.length) (hb : b < g.nodes.length) (p : Int × Int) : SM g.nodes (setF M a b) p ↔ SM g.nodes M p ∧ p ≠ nm g.nodes[a].id g.nodes[b].id := by
  constructor
  · rintro ⟨i, j, hi, hj, hlt, q, rfl⟩
    have q0 := q
    unfold setF at q
    split at q
    · cases q
    · rename_i hne
      refine ⟨⟨i, j, hi, hj, hlt, q, rfl⟩, fun e => hne ?_⟩
      rcases nm_cases g.nodes[a].id g.nodes[b].id with ⟨_, z⟩ | ⟨_, z⟩
      · rw [z, Prod.mk.injEq] at e; exact .inl ⟨gOk_inj h hi ha e.1, gOk_inj h hj hb e.2⟩
      · rw [z, Prod.mk.injEq] at e; exact .inr ⟨gOk_inj h hi hb e.1, gOk_inj h hj ha e.2⟩
  · rintro ⟨⟨i, j, hi, hj, hlt, q, rfl⟩, hne⟩
    refine ⟨i, j, hi, hj, hlt, ?_, rfl⟩
    unfold setF
    rw [if_neg]
    · exact q
    · rintro (⟨rfl, rfl⟩ | ⟨rfl, rfl⟩)
      · exact hne (nm_places h hi hj hlt).symm
      · exact hne (by rw [nm_comm]; exact (nm_places h hi hj hlt).symm)
/-- while level t is peeled; what the numbers are of what is gone -/
structure TPk (g : Gr) (t : Nat) (M : Nat → Nat → Bool) (nums : Nat → Nat → Nat) (f : Int × Int → Nat) : Prop where
  ok : MOk g M
  peel : Peel (PrP g.edges) (CPr g.edges) t (SM g.nodes M) f
  num : ∀ i j, (hi : i < g.nodes.length) → (hj : j < g.nodes.length) → lnks g.nodes g.edges i j = true → M i j = false → nums i j = f (nm g.nodes[i].id g.nodes[j].id) + 2
  diag : ∀ i, i < g.nodes.length → nums i i = 0
theorem TPk.start {g : Gr} (h : Gw g) : TPk g 0 (lnks g.nodes g.edges) (fun _ _ => 0) (fun _ => 0) := by
  refine ⟨mok_start h, ?_, fun i j hi hj q r => (by rw [q] at r; cases r), fun _ _ => rfl⟩
  refine (Peel.start (P := PrP g.edges) (C := CPr g.edges) _ (fun v hv => ?_)).congr (fun v => (sm_all h v).symm) (fun _ _ _ => rfl)
  obtain ⟨m1, m2⟩ := isNb_in h hv.2
  obtain ⟨i, hi, _, e1⟩ := gOk_pos h m1
  obtain ⟨j, hj, _, e2⟩ := gOk_pos h m2
  have hc : CardOf (fun k => k < g.nodes.length ∧ lnks g.nodes g.edges i k = true ∧ lnks g.nodes g.edges j k = true) ((List.range g.nodes.length).filter fun k => lnks g.nodes g.edges i k && lnks g.nodes g.edges j k).length :=
    ⟨_, List.nodup_range.filter _, fun x => by rw [List.mem_filter, List.mem_range, Bool.and_eq_true], rfl⟩
  have := tri_cnt h (mok_start h) hi hj hc
  rw [e1, e2, prp_self hv] at this
  refine ⟨_, this.congr fun u => ?_⟩
  unfold CPr
  rw [sm_all h, sm_all h]
def setN (nums : Nat → Nat → Nat) (a b k : Nat) : Nat → Nat → Nat := fun i j => if (i = a ∧ j = b) ∨ (i = b ∧ j = a) then k else nums i j
theorem TPk.drop {g : Gr} (h : Gw g) {t a b d : Nat} {M : Nat → Nat → Bool} {nums : Nat → Nat → Nat} {f : Int × Int → Nat} (hP : TPk g t M nums f) (ha : a < g.nodes.length) (hb : b < g.nodes.length) (hab : M a b = true) (hc : CardOf (fun k => k < g.nodes.length ∧ M a k = true ∧ M b k = true) d) (hd : d ≤ t) :
    TPk g t (setF M a b) (setN nums a b (t + 2)) (updC f (nm g.nodes[a].id g.nodes[b].id) t) := by
  have hne := hP.ok.ne h ha hb hab
  refine ⟨mok_drop hP.ok a b, ?_, fun i j hi hj q r => ?_, fun i hi => ?_⟩
  · exact Peel.drop (f' := updC f (nm g.nodes[a].id g.nodes[b].id) t) CPr.mono hP.peel ((sm_nm h hP.ok ha hb).2 hab) (tri_cnt h hP.ok ha hb hc) hd (fun u => sm_less h hP.ok ha hb u) (fun u hu => by unfold updC; rw [if_neg hu]) (by unfold updC; rw [if_pos rfl])
  · unfold setN updC
    by_cases e : (i = a ∧ j = b) ∨ (i = b ∧ j = a)
    · rw [if_pos e, if_pos]
      rcases e with ⟨rfl, rfl⟩ | ⟨rfl, rfl⟩
      · rfl
      · exact nm_comm _ _
    · rw [if_neg e, if_neg]
      · refine hP.num i j hi hj q ?_
        unfold setF at r
        rwa [if_neg e] at r
      · intro z
        apply e
        rcases nm_cases g.nodes[i].id g.nodes[j].id with ⟨_, z1⟩ | ⟨_, z1⟩ <;> rcases nm_cases g.nodes[a].id g.nodes[b].id with ⟨_, z2⟩ | ⟨_, z2⟩ <;> rw [z1, z2, Prod.mk.injEq] at z
        · exact .inl ⟨gOk_inj h hi ha z.1, gOk_inj h hj hb z.2⟩
        · exact .inr ⟨gOk_inj h hi hb z.1, gOk_inj h hj ha z.2⟩
        · exact .inr ⟨gOk_inj h hi hb z.2, gOk_inj h hj ha z.1⟩
        · exact .inl ⟨gOk_inj h hi ha z.2, gOk_inj h hj hb z.1⟩
  · unfold setN
    rw [if_neg (by rintro (⟨e1, e2⟩ | ⟨e1, e2⟩) <;> omega)]
    exact hP.diag i hi
/-- each pair that is left has more than t triples, below the place (a, b) -/
def TStab (n : Nat) (M : Nat → Nat → Bool) (t a b : Nat) : Prop := ∀ i j, i < n → j < i → (i < a ∨ (i = a ∧ j < b)) → M i j = true → ∃ d, t + 1 ≤ d ∧ CardOf (fun k => k < n ∧ M i k = true ∧ M j k = true) d
theorem TPk.next {g : Gr} (h : Gw g) {t : Nat} {M : Nat → Nat → Bool} {nums : Nat → Nat → Nat} {f : Int × Int → Nat} (hP : TPk g t M nums f) (hs : TStab g.nodes.length M t g.nodes.length 0) : TPk g (t + 1) M nums f :=
  ⟨hP.ok, Peel.next hP.peel (fun v hv => by
    obtain ⟨i, j, hi, hj, hlt, q, rfl⟩ := hv
    obtain ⟨d, hd, hc⟩ := hs j i hj hlt (.inl hj) (by rw [hP.ok.sym _ _ hj hi]; exact q)
    have := tri_cnt h hP.ok hj hi hc
    rw [nm_comm, nm_places h hi hj hlt] at this
    exact ⟨d, hd, this⟩), hP.num, hP.diag⟩
theorem TPk.le {g : Gr} (h : Gw g) {t a b : Nat} {M : Nat → Nat → Bool} {nums : Nat → Nat → Nat} {f : Int × Int → Nat} (hP : TPk g t M nums f) (ha : a < g.nodes.length) (hb : b < g.nodes.length) (hab : M a b = true) : t ≤ g.nodes.length := by
  have := Peel.bound hP.peel ((sm_nm h hP.ok ha hb).2 hab) (idsOf g.nodes) (fun T u q => q.mem h)
  unfold idsOf at this
  rwa [List.length_map] at this
theorem TPk.done {g : Gr} (h : Gw g) {t : Nat} {M : Nat → Nat → Bool} {nums : Nat → Nat → Nat} {f : Int × Int → Nat} (hP : TPk g t M nums f) (hn : ∀ i j, i < g.nodes.length → j < g.nodes.length → j < i → M i j = false) : (∀ p, PrP g.edges p → CoreIs (PrP g.edges) (CPr g.edges) p (f p)) ∧ ∀ e ∈ g.edges, ∃ (i j : Nat) (hi : i < g.nodes.length) (hj : j < g.nodes.length), posN g.nodes e.src 0 = i ∧ posN g.nodes e.dst 0 = j ∧ (nums i j : Int) = if e.src = e.dst then 0 else ((f (nm e.src e.dst) + 2 : Nat) : Int) := by
  have hall : ∀ i j, i < g.nodes.length → j < g.nodes.length → M i j = false := fun i j hi hj => by
    rcases Nat.lt_trichotomy i j with z | z | z
    · rw [hP.ok.sym i j hi hj]; exact hn j i hj hi z
    · subst z
      cases q : M i i with
      | false => rfl
      | true => exact absurd rfl (hP.ok.ne h hi hi q)
    · exact hn i j hi hj z
  refine ⟨Peel.done hP.peel (fun v ⟨i, j, hi, hj, _, q, _⟩ => by rw [hall i j hi hj] at q; cases q), fun e he => ?_⟩
  obtain ⟨m1, m2⟩ := gOk_mem h he
  obtain ⟨i, hi, p1, e1⟩ := gOk_pos h m1
  obtain ⟨j, hj, p2, e2⟩ := gOk_pos h m2
  refine ⟨i, j, hi, hj, p1, p2, ?_⟩
  by_cases q : e.src = e.dst
  · rw [if_pos q]
    have : i = j := gOk_inj h hi hj (by rw [e1, e2, q])
    subst this
    rw [hP.diag i hi]
    rfl
  · rw [if_neg q, hP.num i j hi hj ((lnks_nb h hi hj).2 ⟨e, he, q, .inl ⟨e1.symm, e2.symm⟩⟩) (hall i j hi hj), e1, e2]
def LeftP (n : Nat) (M : Nat → Nat → Bool) (p : Nat × Nat) : Prop := p.2 < p.1 ∧ p.1 < n ∧ M p.1 p.2 = true
theorem left_drop {n a b left : Nat} {M : Nat → Nat → Bool} (h : CardOf (LeftP n M) left) (ha : a < n) (hab : b < a) (hM : M a b = true) : 0 < left ∧ CardOf (LeftP n (setF M a b)) (left - 1) :=
  h.less (a := (a, b)) ⟨hab, ha, hM⟩ (fun p => by
    obtain ⟨i, j⟩ := p
    unfold LeftP setF
    simp only [ne_eq, Prod.mk.injEq]
    by_cases e : i = a ∧ j = b
    · rw [if_pos (.inl e)]; simp [e]
    · by_cases e2 : i = b ∧ j = a
      · obtain ⟨rfl, rfl⟩ := e2
        constructor
        · rintro ⟨q, _⟩; omega
        · rintro ⟨⟨q, _⟩, _⟩; omega
      · rw [if_neg (fun q => q.elim e e2)]
        exact ⟨fun q => ⟨q, e⟩, fun q => q.1⟩)
end Go.Proofs.YtbaljljlahhkfaaGreatDoor
