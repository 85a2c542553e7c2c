/- Texts of one proof, joined in their order: each bears its own word of what it holds and on what condition. -/
import Derived.Test.YtllhimeffkefiaaGreatDoorMWa
import Derived.Test.YtllhimeffkefiaaGreatDoorMYi
import Derived.Test.YtllhimeffkefiaaGreatDoorML
import Derived.Test.YtllhimeffkefiaaGreatDoorMP
set_option linter.unusedVariables false
set_option linter.unusedSimpArgs false
/- Levels over a graph, plain; frames that name the blocks that may change; maps of distances. No walk here. -/
set_option linter.unusedVariables false
set_option linter.unusedSimpArgs false
namespace Go.Proofs.YtllhimeffkefiaaGreatDoor
open Go.RowKit Go.Sort
open Go.Maps (Keyed)

/-! ### the ends of the edges at a node -/
def Arcd (es : List Ed) (ag : Bool) (a b : Int) : Prop := if ag = true then Arc es b a else Arc es a b
def endOf (ag : Bool) (id : Int) (e : Ed) : Option Int := if ag = true then (if e.dst = id then some e.src else none) else (if e.src = id then some e.dst else none)
def ends (es : List Ed) (ag : Bool) (id : Int) : List Int := es.filterMap (endOf ag id)
theorem mem_ends {es : List Ed} {ag : Bool} {u x : Int} : x ∈ ends es ag u ↔ Arcd es ag u x := by
  unfold ends Arcd endOf Arc
  rw [List.mem_filterMap]
  cases ag with
  | false =>
    simp only [Bool.false_eq_true, if_false]
    constructor
    · rintro ⟨e, he, q⟩
      split at q
      · rename_i h; injection q with q; exact ⟨e, he, h, q⟩
      · cases q
    · rintro ⟨e, he, h, q⟩; exact ⟨e, he, by rw [if_pos h, q]⟩
  | true =>
    simp only [if_true]
    constructor
    · rintro ⟨e, he, q⟩
      split at q
      · rename_i h; injection q with q; exact ⟨e, he, q, h⟩
      · cases q
    · rintro ⟨e, he, h, q⟩; exact ⟨e, he, by rw [if_pos q, h]⟩
theorem ends_snoc {es : List Ed} {ag : Bool} {id : Int} {k : Nat} (hk : k < es.length) : ends (es.take (k + 1)) ag id = ends (es.take k) ag id ++ (endOf ag id es[k]).toList := by
  unfold ends
  rw [take_snoc' _ k hk, List.filterMap_append]
  cases h : endOf ag id es[k] <;> simp [h]
theorem ends_len (es : List Ed) (ag : Bool) (id : Int) (k : Nat) : (ends (es.take k) ag id).length ≤ k := by
  unfold ends
  exact Nat.le_trans (List.length_filterMap_le _ _) (by rw [List.length_take]; omega)
theorem arcd_in {g : Gr} (h : Gw g) {ag : Bool} {a b : Int} (q : Arcd g.edges ag a b) : a ∈ idsOf g.nodes ∧ b ∈ idsOf g.nodes := by
  unfold Arcd at q
  cases ag with
  | false => exact arc_in h (by simpa using q)
  | true => exact And.symm (arc_in h (by simpa using q))

/-! ### one level after the other -/
structure NextL (R : Int → Int → Prop) (s : Int) (far : Nat) (L : List Int) (i : Nat) (row : List Int) (j : Nat) (nx : List Int) (S : Int → Bool) : Prop where
  mem : ∀ x, x ∈ nx ↔ ((∃ v ∈ L.take i, R v x) ∨ x ∈ row.take j) ∧ ¬ Upt R s far x
  nd : nx.Nodup
  seen : ∀ x, S x = true ↔ Upt R s far x ∨ x ∈ nx
theorem NextL.start {R : Int → Int → Prop} {s : Int} {far : Nat} (L : List Int) {S : Int → Bool} (h : ∀ x, S x = true ↔ Upt R s far x) : NextL R s far L 0 [] 0 [] S :=
  ⟨fun x => by simp, List.nodup_nil, fun x => by rw [h x]; simp⟩
theorem NextL.skip {R : Int → Int → Prop} {s : Int} {far : Nat} {L row nx : List Int} {i j : Nat} {S : Int → Bool} (h : NextL R s far L i row j nx S) (hj : j < row.length) (hs : S row[j] = true) : NextL R s far L i row (j + 1) nx S := by
  refine ⟨fun x => ?_, h.nd, h.seen⟩
  rw [h.mem x, take_snoc' _ j hj, List.mem_append, List.mem_singleton]
  constructor
  · rintro ⟨q | q, r⟩
    · exact ⟨.inl q, r⟩
    · exact ⟨.inr (.inl q), r⟩
  · rintro ⟨q | q | q, r⟩
    · exact ⟨.inl q, r⟩
    · exact ⟨.inr q, r⟩
    · subst q
      rcases (h.seen _).1 hs with q | q
      · exact absurd q r
      · exact (h.mem _).1 q
theorem NextL.push {R : Int → Int → Prop} {s : Int} {far : Nat} {L row nx : List Int} {i j : Nat} {S : Int → Bool} (h : NextL R s far L i row j nx S) (hj : j < row.length) (hs : S row[j] = false) : NextL R s far L i row (j + 1) (nx ++ [row[j]]) (fun y => decide (y = row[j]) || S y) := by
  have hn : ¬ (Upt R s far row[j] ∨ row[j] ∈ nx) := fun q => by rw [(h.seen _).2 q] at hs; cases hs
  refine ⟨fun x => ?_, ?_, fun x => ?_⟩
  · rw [List.mem_append, List.mem_singleton, h.mem x, take_snoc' _ j hj, List.mem_append, List.mem_singleton]
    constructor
    · rintro (⟨q | q, r⟩ | q)
      · exact ⟨.inl q, r⟩
      · exact ⟨.inr (.inl q), r⟩
      · subst q; exact ⟨.inr (.inr rfl), fun q => hn (.inl q)⟩
    · rintro ⟨q | q | q, r⟩
      · exact .inl ⟨.inl q, r⟩
      · exact .inl ⟨.inr q, r⟩
      · exact .inr q
  · rw [List.nodup_append]
    refine ⟨h.nd, by simp, fun a ha b hb e => ?_⟩
    rw [List.mem_singleton] at hb
    subst hb; subst e
    exact hn (.inr ha)
  · rw [Bool.or_eq_true, decide_eq_true_eq, h.seen x, List.mem_append, List.mem_singleton]
    constructor
    · rintro (q | q | q)
      · exact .inr (.inr q)
      · exact .inl q
      · exact .inr (.inl q)
    · rintro (q | q | q)
      · exact .inr (.inl q)
      · exact .inr (.inr q)
      · exact .inl q
theorem NextL.open {R : Int → Int → Prop} {s : Int} {far : Nat} {L nx : List Int} {i : Nat} {S : Int → Bool} {r0 : List Int} (h : NextL R s far L i r0 0 nx S) (row : List Int) : NextL R s far L i row 0 nx S :=
  ⟨fun x => by rw [h.mem x, List.take_zero, List.take_zero], h.nd, h.seen⟩
theorem NextL.shut {R : Int → Int → Prop} {s : Int} {far : Nat} {L row nx : List Int} {i : Nat} {S : Int → Bool} (h : NextL R s far L i row row.length nx S) (hi : i < L.length) (hr : ∀ x, x ∈ row ↔ R L[i] x) : NextL R s far L (i + 1) [] 0 nx S := by
  refine ⟨fun x => ?_, h.nd, h.seen⟩
  rw [h.mem x, List.take_length]
  constructor
  · rintro ⟨⟨v, hv, q⟩ | q, r⟩
    · exact ⟨.inl ⟨v, by rw [take_snoc' _ i hi]; exact List.mem_append_left _ hv, q⟩, r⟩
    · exact ⟨.inl ⟨_, by rw [take_snoc' _ i hi]; exact List.mem_append_right _ (List.mem_singleton.2 rfl), (hr x).1 q⟩, r⟩
  · rintro ⟨⟨v, hv, q⟩ | q, r⟩
    · rw [take_snoc' _ i hi, List.mem_append, List.mem_singleton] at hv
      rcases hv with hv | rfl
      · exact ⟨.inl ⟨v, hv, q⟩, r⟩
      · exact ⟨.inr ((hr x).2 q), r⟩
    · simp at q
theorem NextL.turn {R : Int → Int → Prop} {s : Int} {far : Nat} {L nx r0 : List Int} {S : Int → Bool} (h : NextL R s far L L.length r0 0 nx S) (hL : ∀ u, u ∈ L ↔ Dst R s far u) : (∀ u, u ∈ nx ↔ Dst R s (far + 1) u) ∧ nx.Nodup ∧ ∀ x, S x = true ↔ Upt R s (far + 1) x := by
  have h1 : ∀ u, u ∈ nx ↔ Dst R s (far + 1) u := fun u => by
    rw [h.mem u, dst_succ, List.take_length, List.take_zero]
    constructor
    · rintro ⟨⟨v, hv, q⟩ | q, r⟩
      · exact ⟨⟨v, (hL v).1 hv, q⟩, r⟩
      · simp at q
    · rintro ⟨⟨v, hv, q⟩, r⟩; exact ⟨.inl ⟨v, (hL v).2 hv, q⟩, r⟩
  exact ⟨h1, h.nd, fun x => by rw [h.seen x, upt_succ, h1]⟩
/-- those that have been visited, each with how far it is -/
structure Done (R : Int → Int → Prop) (s : Int) (ids : List Int) (far : Nat) (l : List Int) (done : List (Int × Nat)) : Prop where
  iff : ∀ u k, (u, k) ∈ done ↔ (Dst R s k u ∧ k < far) ∨ (k = far ∧ u ∈ l)
  nd : (done.map Prod.fst).Nodup
  sub : ∀ p ∈ done, p.1 ∈ ids
theorem Done.len {R : Int → Int → Prop} {s : Int} {ids : List Int} {far : Nat} {l : List Int} {done : List (Int × Nat)} (h : Done R s ids far l done) : done.length ≤ ids.length := by
  have := nodup_le _ ids h.nd (fun x hx => by obtain ⟨p, hp, rfl⟩ := List.mem_map.1 hx; exact h.sub p hp)
  rwa [List.length_map] at this
theorem Done.start (R : Int → Int → Prop) (s : Int) (ids : List Int) : Done R s ids 0 [] [] := ⟨fun u k => by simp, by simp, by simp⟩
theorem Done.new {R : Int → Int → Prop} {s : Int} {ids : List Int} {far : Nat} {L : List Int} {i : Nat} {done : List (Int × Nat)} (h : Done R s ids far (L.take i) done) (hi : i < L.length) (hL : ∀ u, u ∈ L ↔ Dst R s far u) (hnd : L.Nodup) : ∀ k, (L[i], k) ∉ done := fun k q => by
  have hd := (hL L[i]).1 (List.getElem_mem hi)
  rcases (h.iff _ _).1 q with ⟨a, b⟩ | ⟨a, b⟩
  · have := hd.same a; omega
  · obtain ⟨j, hj, e⟩ := List.mem_iff_getElem.1 b
    rw [List.length_take] at hj
    rw [List.getElem_take] at e
    have := (List.getElem_inj hnd).1 e
    omega
theorem Done.step {R : Int → Int → Prop} {s : Int} {ids : List Int} {far : Nat} {L : List Int} {i : Nat} {done : List (Int × Nat)} (h : Done R s ids far (L.take i) done) (hi : i < L.length) (hL : ∀ u, u ∈ L ↔ Dst R s far u) (hnd : L.Nodup) (hids : L[i] ∈ ids) : Done R s ids far (L.take (i + 1)) (done ++ [(L[i], far)]) := by
  have hn := h.new hi hL hnd
  refine ⟨fun u k => ?_, ?_, fun p hp => ?_⟩
  · rw [List.mem_append, List.mem_singleton, h.iff, take_snoc' _ i hi, List.mem_append, List.mem_singleton, Prod.mk.injEq]
    constructor
    · rintro ((q | ⟨q, r⟩) | ⟨q, r⟩)
      · exact .inl q
      · exact .inr ⟨q, .inl r⟩
      · exact .inr ⟨r, .inr q⟩
    · rintro (q | ⟨q, r | r⟩)
      · exact .inl (.inl q)
      · exact .inl (.inr ⟨q, r⟩)
      · exact .inr ⟨r, q⟩
  · rw [List.map_append, List.nodup_append]
    refine ⟨h.nd, by simp, fun a ha b hb e => ?_⟩
    obtain ⟨p, hp, rfl⟩ := List.mem_map.1 ha
    simp at hb
    subst hb
    exact hn p.2 (by rw [← e]; exact hp)
  · rw [List.mem_append, List.mem_singleton] at hp
    rcases hp with hp | rfl
    · exact h.sub p hp
    · exact hids
theorem Done.turn {R : Int → Int → Prop} {s : Int} {ids : List Int} {far : Nat} {L : List Int} {done : List (Int × Nat)} (h : Done R s ids far L done) (hL : ∀ u, u ∈ L ↔ Dst R s far u) : Done R s ids (far + 1) [] done := by
  refine ⟨fun u k => ?_, h.nd, h.sub⟩
  rw [h.iff]
  constructor
  · rintro (⟨a, b⟩ | ⟨a, b⟩)
    · exact .inl ⟨a, by omega⟩
    · subst a; exact .inl ⟨(hL u).1 b, by omega⟩
  · rintro (⟨a, b⟩ | ⟨a, b⟩)
    · by_cases e : k = far
      · subst e; exact .inr ⟨rfl, (hL u).2 a⟩
      · exact .inl ⟨a, by omega⟩
    · simp at b
theorem Done.all {R : Int → Int → Prop} {s : Int} {ids : List Int} {far : Nat} {done : List (Int × Nat)} (h : Done R s ids far [] done) (hL : ∀ u, ¬ Dst R s far u) : ∀ u k, (u, k) ∈ done ↔ Dst R s k u := fun u k => by
  rw [h.iff]
  constructor
  · rintro (⟨a, b⟩ | ⟨a, b⟩)
    · exact a
    · simp at b
  · exact fun q => .inl ⟨q, upt_all hL q⟩

/-! ### frames -/
/-- all but the blocks of T is as it was -/
structure Kp (w w' : World) (T : Nat → Prop) : Prop where
  os : w'.os = w.os
  tape : w'.tape = w.tape
  output : w'.output = w.output
  size : w.heap.size ≤ w'.heap.size
  block : ∀ b, b < w.heap.size → ¬ T b → w'.heap[b]? = w.heap[b]?
theorem Kp.refl (w : World) (T : Nat → Prop) : Kp w w T := ⟨rfl, rfl, rfl, Nat.le_refl _, fun _ _ _ => rfl⟩
theorem Kp.trans {a b c : World} {T : Nat → Prop} (h : Kp a b T) (k : Kp b c T) : Kp a c T :=
  ⟨k.os.trans h.os, k.tape.trans h.tape, k.output.trans h.output, Nat.le_trans h.size k.size, fun q hq hn => (k.block q (Nat.lt_of_lt_of_le hq h.size) hn).trans (h.block q hq hn)⟩
/-- what may change later is new or may change already -/
theorem Kp.then {a b c : World} {T U : Nat → Prop} (h : Kp a b T) (k : Kp b c U) (hU : ∀ q, U q → T q ∨ a.heap.size ≤ q) : Kp a c T :=
  ⟨k.os.trans h.os, k.tape.trans h.tape, k.output.trans h.output, Nat.le_trans h.size k.size, fun q hq hn => (k.block q (Nat.lt_of_lt_of_le hq h.size) (fun u => by rcases hU q u with e | e; exact hn e; omega)).trans (h.block q hq hn)⟩
theorem Kp.mono {a b : World} {T U : Nat → Prop} (h : Kp a b T) (hU : ∀ q, T q → U q) : Kp a b U := ⟨h.os, h.tape, h.output, h.size, fun q hq hn => h.block q hq (fun t => hn (hU q t))⟩
theorem Kp.of_below {a b : World} (h : Below a.heap.size a b) (T : Nat → Prop) : Kp a b T := ⟨h.os, h.tape, h.output, h.size, fun q hq _ => h.block q hq⟩
theorem Kp.of_grown {a b : World} {x : Option Nat} (h : a.grownBy b x) : Kp a b (fun q => some q = x) := ⟨h.os, h.tape, h.output, h.size, fun q hq hn => h.block q hq hn⟩
theorem Kp.below {a b : World} {T : Nat → Prop} (h : Kp a b T) {B : Nat} (hB : B ≤ a.heap.size) (hT : ∀ q, T q → B ≤ q) : Below B a b := ⟨h.os, h.tape, h.output, h.size, fun q hq => h.block q (Nat.lt_of_lt_of_le hq hB) (fun t => by have := hT q t; omega)⟩

/-! ### a map of distances -/
structure DistM (done : List (Int × Nat)) (D : DataW Unit) : Prop where
  has : ∀ u, Maps.has D (.int .i64 u) = true ↔ ∃ k, (u, k) ∈ done
  val : ∀ u k, (u, k) ∈ done → ∀ zd, D.atKey (.int .i64 u) zd = .lit (.int .i64 (k : Int))
  form : ∃ l : List (Lit × DataW Unit), D = .map l ∧ ∀ p ∈ l, ∃ id, p.1 = .int .i64 id
theorem DistM.none : DistM [] (.map []) := ⟨fun u => by simp [show Maps.has (DataW.map (H := Unit) []) (.int .i64 u) = false from rfl], by simp, [], rfl, by simp⟩
theorem DistM.put {done : List (Int × Nat)} {D : DataW Unit} (h : DistM done D) {u : Int} (k : Nat) (hn : ∀ k, (u, k) ∉ done) : DistM (done ++ [(u, k)]) (D.put (.int .i64 u) (.lit (.int .i64 (k : Int)))) := by
  obtain ⟨l, rfl, hk⟩ := h.form
  refine ⟨fun x => ?_, fun x j hx zd => ?_, _, DataW.put_eq _ _ _, fun p hp => ?_⟩
  · by_cases e : x = u
    · subst e
      rw [Maps.has_put_same ⟨_, rfl⟩ (keyLit _)]
      simp
    · rw [Maps.has_put_other (fun q => e (by injection q)), h.has x]
      simp [e]
  · rw [List.mem_append, List.mem_singleton, Prod.mk.injEq] at hx
    rcases hx with hx | ⟨rfl, rfl⟩
    · have e : x ≠ u := fun e => by subst e; exact hn _ hx
      rw [Maps.atKey_put_other (fun q => e (by injection q)), h.val x j hx]
    · rw [Maps.atKey_put_same ⟨_, rfl⟩ (keyLit _)]
  · unfold ChangeMaps.putKey at hp
    rcases ChangeMaps.mem_insert_iff.1 hp with e | e
    · exact ⟨u, by rw [e]⟩
    · exact hk p (List.mem_filter.1 e).1
/-! ### the state of levels: the graph's box cg, the map of what is seen bs, what visit keeps in the blocks V -/
abbrev VInv := World → (Nat → Prop) → List (Int × Nat) → Prop
structure LvS (w W : World) (V0 V : Nat → Prop) (Inv : VInv) (cg bs : Nat) (x0 x1 : Value) (m : Nat) (D : DataW Unit) (done : List (Int × Nat)) : Prop where
  inv : Inv W V done
  kp : Kp w W V0
  sub : ∀ q, V q → V0 q ∨ w.heap.size ≤ q
  c0 : W.cell? ⟨cg, 0, none⟩ = some x0
  c1 : W.cell? ⟨cg, 1, none⟩ = some x1
  seen : W.ownsMap Tryz.prog 2 (plainElem Tryz.prog 3) bs m D
  ng : ¬ V cg
  ns : ¬ V bs
theorem own_block {w w' : World} {b n : Nat} {R : Value → Option (DataW Unit × List MemPlace)} {D : DataW Unit} (h : w.ownsMap Tryz.prog 2 R b n D) (hb : w'.heap[b]? = w.heap[b]?) : w'.ownsMap Tryz.prog 2 R b n D := by
  obtain ⟨es, clock, h1, h2⟩ := h
  exact ⟨es, clock, hb.trans h1, h2⟩
/-- what changes only blocks that are none of ours -/
theorem LvS.keep {w W W' : World} {V0 V : Nat → Prop} {Inv : VInv} {cg bs : Nat} {x0 x1 : Value} {m : Nat} {D : DataW Unit} {done : List (Int × Nat)} (h : LvS w W V0 V Inv cg bs x0 x1 m D done)
    (hlt : ∀ W V d, Inv W V d → ∀ q, V q → q < W.heap.size) (hk : ∀ W W' V d, Inv W V d → (∀ q, V q → W'.heap[q]? = W.heap[q]?) → Inv W' V d) {T : Nat → Prop} (hg : Kp W W' T) (hT : ∀ q, T q → w.heap.size ≤ q ∧ q ≠ cg ∧ q ≠ bs ∧ ¬ V q) : LvS w W' V0 V Inv cg bs x0 x1 m D done :=
  ⟨hk _ _ _ _ h.inv (fun q hq => hg.block q (hlt _ _ _ h.inv q hq) (fun t => (hT q t).2.2.2 hq)), h.kp.then hg (fun q t => .inr (hT q t).1), h.sub, cell_kept (fun hl => hg.block cg hl (fun t => (hT cg t).2.1 rfl)) h.c0, cell_kept (fun hl => hg.block cg hl (fun t => (hT cg t).2.1 rfl)) h.c1, own_block h.seen (hg.block bs h.seen.lt (fun t => (hT bs t).2.2.1 rfl)), h.ng, h.ns⟩
theorem LvS.below {w W W' : World} {V0 V : Nat → Prop} {Inv : VInv} {cg bs : Nat} {x0 x1 : Value} {m : Nat} {D : DataW Unit} {done : List (Int × Nat)} (h : LvS w W V0 V Inv cg bs x0 x1 m D done)
    (hlt : ∀ W V d, Inv W V d → ∀ q, V q → q < W.heap.size) (hk : ∀ W W' V d, Inv W V d → (∀ q, V q → W'.heap[q]? = W.heap[q]?) → Inv W' V d) (hg : Below W.heap.size W W') : LvS w W' V0 V Inv cg bs x0 x1 m D done :=
  h.keep hlt hk (Kp.of_below hg (fun _ => False)) (fun q t => t.elim)
/-- the map of what is seen is written -/
theorem LvS.store {w W W' : World} {V0 V : Nat → Prop} {Inv : VInv} {cg bs : Nat} {x0 x1 : Value} {m : Nat} {D : DataW Unit} {done : List (Int × Nat)} (h : LvS w W V0 V Inv cg bs x0 x1 m D done)
    (hlt : ∀ W V d, Inv W V d → ∀ q, V q → q < W.heap.size) (hk : ∀ W W' V d, Inv W V d → (∀ q, V q → W'.heap[q]? = W.heap[q]?) → Inv W' V d) (hg : W.grownBy W' (some bs)) (hbs : w.heap.size ≤ bs) (hne : bs ≠ cg) {m' : Nat} {D' : DataW Unit} (ho : W'.ownsMap Tryz.prog 2 (plainElem Tryz.prog 3) bs m' D') : LvS w W' V0 V Inv cg bs x0 x1 m' D' done :=
  have hb : ∀ q, q < W.heap.size → q ≠ bs → W'.heap[q]? = W.heap[q]? := fun q hq hn => hg.block q hq (fun e => hn (by injection e))
  ⟨hk _ _ _ _ h.inv (fun q hq => hb q (hlt _ _ _ h.inv q hq) (fun e => h.ns (e ▸ hq))), h.kp.then (Kp.of_grown hg) (fun q t => .inr (by have : q = bs := (by injection t); omega)), h.sub, cell_kept (fun hl => hb cg hl (fun e => hne e.symm)) h.c0, cell_kept (fun hl => hb cg hl (fun e => hne e.symm)) h.c1, ho, h.ng, h.ns⟩
/-- visit was called -/
theorem LvS.visit {w W W' : World} {V0 V V' : Nat → Prop} {Inv : VInv} {cg bs : Nat} {x0 x1 : Value} {m : Nat} {D : DataW Unit} {done done' : List (Int × Nat)} (h : LvS w W V0 V Inv cg bs x0 x1 m D done) (hcg : cg < W.heap.size)
    (hi : Inv W' V' done') (hg : Kp W W' V) (hV : ∀ q, V' q → V q ∨ W.heap.size ≤ q) : LvS w W' V0 V' Inv cg bs x0 x1 m D done' :=
  ⟨hi, h.kp.then hg h.sub, fun q hq => by
    rcases hV q hq with e | e
    · exact h.sub q e
    · exact .inr (Nat.le_trans h.kp.size e), cell_kept (fun hl => hg.block cg hl h.ng) h.c0, cell_kept (fun hl => hg.block cg hl h.ng) h.c1, own_block h.seen (hg.block bs h.seen.lt h.ns), fun q => by
    rcases hV cg q with e | e
    · exact h.ng e
    · omega, fun q => by
    rcases hV bs q with e | e
    · exact h.ns e
    · have := h.seen.lt; omega⟩
end Go.Proofs.YtllhimeffkefiaaGreatDoor
/- Rows of truths, each made elsewhere, in a row of the call's own; the parts found. No walk here. -/
set_option linter.unusedVariables false
set_option linter.unusedSimpArgs false
namespace Go.Proofs.YtllhimeffkefiaaGreatDoor
open Go.RowKit Go.Sort

theorem own_shape' {w : World} {base : Nat} {e : TypeId} {sz : Nat} {v : Value} {n : Nat} {xs : List Value} (h : w.ownsRow base e sz v n xs) : ∃ a c, v = .slice a n c := by
  rcases h.2 with ⟨q, hn⟩ | ⟨g, cap, cur, q, _⟩
  · subst hn; exact ⟨_, _, q⟩
  · exact ⟨_, _, q⟩
structure Rws (base : Nat) (W : World) (v : Value) (k n : Nat) (gs : Nat → Nat) (s : Nat → Nat → Bool) : Prop where
  own : W.ownsRow base 68 1 v k ((List.range k).map (rowV gs n))
  hi : ∀ i, i < k → gs i < W.heap.size
  out : ∀ i, i < k → v.ownBlock ≠ some (gs i)
  cell : ∀ i, i < k → ∀ j, j < n → W.cell? ⟨gs i, j, none⟩ = some (.bool (s i j))
theorem Rws.nil (base : Nat) (W : World) (n : Nat) (gs : Nat → Nat) (s : Nat → Nat → Bool) : Rws base W (.slice none 0 0) 0 n gs s :=
  ⟨World.ownsRow_nil _ _ _ _, fun i hi => by omega, fun i hi => by omega, fun i hi => by omega⟩
theorem Rws.below {base : Nat} {W W' : World} {v : Value} {k n : Nat} {gs : Nat → Nat} {s : Nat → Nat → Bool} (h : Rws base W v k n gs s) (hb : Below W.heap.size W W') : Rws base W' v k n gs s :=
  ⟨own_kept h.own (fun b _ hl => hb.block b hl), fun i hi => Nat.lt_of_lt_of_le (h.hi i hi) hb.size, h.out, fun i hi j hj => cell_kept (fun hl => hb.block _ hl) (h.cell i hi j hj)⟩
theorem Rws.more {base : Nat} {W W2 w6 : World} {v : Value} {k n : Nat} {gs : Nat → Nat} {s : Nat → Nat → Bool} (h : Rws base W v k n gs s) {H : Nat} {t : Nat → Bool} (hW : Below W.heap.size W W2) (hH1 : W.heap.size ≤ H) (hH2 : H < W2.heap.size)
    (hc : ∀ j, j < n → W2.cell? ⟨H, j, none⟩ = some (.bool (t j)))
    {g cap : Nat} (hown : w6.ownsRow base 68 1 (.slice (some ⟨g, 0, none⟩) (k + 1) cap) (k + 1) ((List.range k).map (rowV gs n) ++ [.slice (some ⟨H, 0, none⟩) n n])) (hgrow : W2.grownBy w6 v.ownBlock) (hat : v.ownBlock = some g ∨ g = W2.heap.size) :
    Rws base w6 (.slice (some ⟨g, 0, none⟩) (k + 1) cap) (k + 1) n (fun i => if i = k then H else gs i) (fun i j => if i = k then t j else s i j) := by
  have h2 := h.below hW
  have hvb : ∀ q, v.ownBlock = some q → q < W.heap.size := fun q e => (h.own.lt q e).2
  have hgH : ∀ q, q < W2.heap.size → v.ownBlock ≠ some q → w6.heap[q]? = W2.heap[q]? := fun q hl hne => hgrow.block q hl (fun e => hne e.symm)
  have hneH : v.ownBlock ≠ some H := fun e => by have := hvb H e; omega
  have hgne : ∀ i, i < k → g ≠ gs i := fun i hi e => by
    rcases hat with q | q
    · exact h.out i hi (by rw [q, e])
    · have := h2.hi i hi; omega
  refine ⟨?_, fun i hi => ?_, fun i hi => ?_, fun i hi j hj => ?_⟩
  · have e : (List.range (k + 1)).map (rowV (fun i => if i = k then H else gs i) n) = (List.range k).map (rowV gs n) ++ [.slice (some ⟨H, 0, none⟩) n n] := by
      rw [List.range_succ, List.map_append]
      congr 1
      · refine List.map_congr_left (fun i hi => ?_)
        have : i < k := List.mem_range.1 hi
        simp [rowV, show i ≠ k by omega]
      · simp [rowV]
    rw [e]
    exact hown
  · split
    · exact Nat.lt_of_lt_of_le hH2 hgrow.size
    · exact Nat.lt_of_lt_of_le (h2.hi i (by omega)) hgrow.size
  · simp only [Value.ownBlock, ne_eq, Option.some.injEq]
    split
    · rintro rfl
      rcases hat with q | q
      · exact hneH q
      · omega
    · exact hgne i (by omega)
  · split
    · exact (World.cell?_of_block (a := ⟨H, j, none⟩) (hgH H hH2 hneH)).trans (hc j hj)
    · exact (World.cell?_of_block (a := ⟨gs i, j, none⟩) (hgH _ (h2.hi i (by omega)) (h.out i (by omega)))).trans (h2.cell i (by omega) j hj)
theorem Rws.rowcell {base : Nat} {W : World} {v : Value} {k n : Nat} {gs : Nat → Nat} {s : Nat → Nat → Bool} (h : Rws base W v k n gs s) {i : Nat} (hi : i < k) : ∃ g c, v = .slice (some ⟨g, 0, none⟩) k c ∧ g < W.heap.size ∧ ∀ j, j < k → W.cell? ⟨g, j, none⟩ = some (rowV gs n j) := by
  obtain ⟨g, c, rfl, h1, h2, hat, _⟩ := own_at h.own (by omega)
  refine ⟨g, c, rfl, h2, fun j hj => ?_⟩
  have := hat j (rowV gs n j) (by rw [List.getElem?_map, List.getElem?_range hj]; rfl)
  rwa [Nat.zero_add] at this
/-- the parts, out of the numbers -/
theorem strong_f {g : Gr} (h : Gw g) (nums : Nat → Int) (hn : ∀ (j : Nat) (hj : j < g.nodes.length), Led g.edges g.nodes[j].id (nums j)) : ∃ f : Int → Int, (∀ id ∈ idsOf g.nodes, Led g.edges id (f id)) ∧ ∀ (j : Nat) (hj : j < g.nodes.length), nums j = f g.nodes[j].id := by
  refine ⟨fun id => nums (posN g.nodes id 0).toNat, fun id hid => ?_, fun j hj => ?_⟩
  · obtain ⟨p, hp, p1, rfl⟩ := gOk_pos h hid
    show Led g.edges g.nodes[p].id (nums (posN g.nodes g.nodes[p].id 0).toNat)
    rw [gOk_posAt h hp, Int.toNat_natCast]
    exact hn p hp
  · show nums j = nums _
    rw [gOk_posAt h hj, Int.toNat_natCast]
/-- the number found among those that are both ways with i -/
theorem low_led {g : Gr} (h : Gw g) {s : Nat → Nat → Bool} {i : Nat} {x : Int} (hl : Low g.nodes (fun k => s i k && s k i) 0 x) (hi : i < g.nodes.length) (hs : ∀ i k, i < g.nodes.length → k < g.nodes.length → (s i k = true ↔ Rch g.nodes.length (lnkd g.nodes g.edges) i k)) : Led g.edges g.nodes[i].id x := by
  rcases hl with ⟨j, hj, _, h2, rfl, h4⟩ | q
  · rw [Bool.and_eq_true] at h2
    exact led_of h hi s hs hj h2.1 h2.2 (fun k hk r => by
      have : (s i k && s k i) = false := h4 k (Nat.zero_le _) hk
      rw [r.1, r.2] at this
      cases this)
  · have : (s i i && s i i) = false := q i (Nat.zero_le _) hi
    rw [(hs i i hi hi).2 .refl] at this
    cases this
end Go.Proofs.YtllhimeffkefiaaGreatDoor
