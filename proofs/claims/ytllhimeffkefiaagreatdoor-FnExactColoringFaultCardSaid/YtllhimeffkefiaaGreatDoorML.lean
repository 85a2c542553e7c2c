/- Texts of one proof, joined in their order: each bears its own word of what it holds and on what condition. -/
import Derived.Test.YtllhimeffkefiaaGreatDoorMK
import Derived.Test.YtllhimeffkefiaaGreatDoorMSs
import Derived.Test.YtllhimeffkefiaaGreatDoorMA
set_option linter.unusedVariables false
set_option linter.unusedSimpArgs false
/- The specification's WeakParts, whole; the plain law of what is reached. -/
set_option linter.unusedVariables false
set_option linter.unusedSimpArgs false
namespace Go.Proofs.YtllhimeffkefiaaGreatDoor
open Go.RowKit Go.Sort

theorem gOk_inj {g : Gr} (h : Gw g) {i j : Nat} (hi : i < g.nodes.length) (hj : j < g.nodes.length) (e : g.nodes[i].id = g.nodes[j].id) : i = j := by
  rcases Nat.lt_trichotomy i j with q | q | q
  · have := h.rise _ _ hj q; omega
  · exact q
  · have := h.rise _ _ hi q; omega
theorem gOk_pos {g : Gr} (h : Gw g) {id : Int} (hid : id ∈ idsOf g.nodes) : ∃ (p : Nat) (hp : p < g.nodes.length), posN g.nodes id 0 = (p : Int) ∧ g.nodes[p].id = id := by
  obtain ⟨p, hp, h1, h2⟩ := posN_get g.nodes id 0 (thr_iff.2 hid)
  exact ⟨p, hp, by simpa using h1, h2⟩
theorem ids_at {ns : List Nd} {i : Nat} (hi : i < ns.length) : ns[i].id ∈ idsOf ns := List.mem_map.2 ⟨_, List.getElem_mem hi, rfl⟩
theorem gOk_posAt {g : Gr} (h : Gw g) {i : Nat} (hi : i < g.nodes.length) : posN g.nodes g.nodes[i].id 0 = (i : Int) := by
  obtain ⟨p, hp, h1, h2⟩ := gOk_pos h (ids_at hi)
  rw [h1, gOk_inj h hp hi h2]
theorem gOk_mem {g : Gr} (h : Gw g) {e : Ed} (he : e ∈ g.edges) : e.src ∈ idsOf g.nodes ∧ e.dst ∈ idsOf g.nodes := by
  obtain ⟨k, hk, rfl⟩ := List.mem_iff_getElem.1 he
  exact h.ends _ hk
theorem lnks_iff {g : Gr} (h : Gw g) {i j : Nat} (hi : i < g.nodes.length) (hj : j < g.nodes.length) : lnks g.nodes g.edges i j = true ↔ i ≠ j ∧ ∃ e ∈ g.edges, (e.src = g.nodes[i].id ∧ e.dst = g.nodes[j].id) ∨ (e.dst = g.nodes[i].id ∧ e.src = g.nodes[j].id) := by
  unfold lnks
  rw [List.any_eq_true]
  constructor
  · rintro ⟨e, he, hl⟩
    obtain ⟨h1, h2⟩ := gOk_mem h he
    obtain ⟨p, hp, p1, p2⟩ := gOk_pos h h1
    obtain ⟨q, hq, q1, q2⟩ := gOk_pos h h2
    unfold lnk at hl
    rw [p1, q1] at hl
    simp only [Bool.and_eq_true, Bool.or_eq_true, decide_eq_true_eq] at hl
    obtain ⟨hne, ⟨a, b⟩ | ⟨a, b⟩⟩ := hl
    · have a' : p = i := by omega
      have b' : q = j := by omega
      subst a' b'
      exact ⟨by omega, e, he, .inl ⟨p2.symm, q2.symm⟩⟩
    · have a' : q = i := by omega
      have b' : p = j := by omega
      subst a' b'
      exact ⟨by omega, e, he, .inr ⟨q2.symm, p2.symm⟩⟩
  · rintro ⟨hne, e, he, ⟨a, b⟩ | ⟨a, b⟩⟩
    · refine ⟨e, he, ?_⟩
      unfold lnk
      rw [a, b, gOk_posAt h hi, gOk_posAt h hj]
      simp
      omega
    · refine ⟨e, he, ?_⟩
      unfold lnk
      rw [a, b, gOk_posAt h hi, gOk_posAt h hj]
      simp
      omega
theorem Rch.lt {n : Nat} {M : Nat → Nat → Bool} {a b : Nat} (h : Rch n M a b) (ha : a < n) : b < n := by
  cases h with
  | refl => exact ha
  | step _ h _ => exact h
theorem rch_con {g : Gr} (h : Gw g) {i : Nat} (hi : i < g.nodes.length) {k : Nat} (hr : Rch g.nodes.length (lnks g.nodes g.edges) i k) : ∃ hk : k < g.nodes.length, Con g.edges g.nodes[i].id g.nodes[k].id := by
  induction hr with
  | refl => exact ⟨hi, .refl _⟩
  | step hb hc hm ih =>
    obtain ⟨hk, ih⟩ := ih
    obtain ⟨_, e, he, q⟩ := (lnks_iff h hk hc).1 hm
    exact ⟨hc, ih.step ⟨e, he, q⟩⟩
theorem con_rch {g : Gr} (h : Gw g) {i : Nat} (hi : i < g.nodes.length) {y : Int} (hc : Con g.edges g.nodes[i].id y) : ∃ (k : Nat) (hk : k < g.nodes.length), g.nodes[k].id = y ∧ Rch g.nodes.length (lnks g.nodes g.edges) i k := by
  generalize hx : g.nodes[i].id = x at hc
  induction hc with
  | refl => exact ⟨i, hi, hx, .refl⟩
  | step _ he ih =>
    obtain ⟨k, hk, hky, hr⟩ := ih
    obtain ⟨e, he, q⟩ := he
    have hm := gOk_mem h he
    obtain ⟨k', hk', _, hk2⟩ := gOk_pos h (id := _) (by rcases q with q | q; exact q.2 ▸ hm.2; exact q.2 ▸ hm.1)
    by_cases e2 : k = k'
    · subst e2; exact ⟨k, hk, hk2, hr⟩
    · exact ⟨k', hk', hk2, hr.step hk' ((lnks_iff h hk hk').2 ⟨e2, e, he, by rw [hky, hk2]; exact q⟩)⟩
/-- the least that is reached -/
def Least (g : Gr) (j : Nat) (x : Int) : Prop := ∃ (m : Nat) (hm : m < g.nodes.length), x = g.nodes[m].id ∧ Rch g.nodes.length (lnks g.nodes g.edges) j m ∧ ∀ k, k < m → ¬ Rch g.nodes.length (lnks g.nodes g.edges) j k
theorem least_part {g : Gr} (h : Gw g) (nums : Nat → Int) (hn : ∀ j, j < g.nodes.length → Least g j (nums j)) : ∃ f, IsPart (idsOf g.nodes) g.edges f ∧ ∀ j (hj : j < g.nodes.length), f g.nodes[j].id = nums j := by
  refine ⟨fun id => nums (posN g.nodes id 0).toNat, fun id hid => ?_, fun j hj => ?_⟩
  · obtain ⟨p, hp, p1, p2⟩ := gOk_pos h hid
    subst p2
    simp only [p1, Int.toNat_natCast]
    obtain ⟨m, hm, e, hr, hmin⟩ := hn p hp
    rw [e]
    refine ⟨ids_at hm, (rch_con h hp hr).2, fun y hy hc => ?_⟩
    obtain ⟨k, hk, rfl, hr2⟩ := con_rch h hp hc
    by_cases hkm : k < m
    · exact absurd hr2 (hmin k hkm)
    · by_cases e2 : m = k
      · subst e2; exact Int.le_refl _
      · exact Int.le_of_lt (h.rise _ _ hk (by omega))
  · simp only [gOk_posAt h hj, Int.toNat_natCast]
theorem fault_bad (w : World) (S : Nat → Prop) (v : Value) (g : Gr) (hb : gOk g = false) (h : RGr w S v g) : Calls Tryz.prog 35 #[v] w (IntB 1 w) := by
  have := graphFault_any w S v g h
  rwa [hb] at this
theorem fault_good (w : World) (S : Nat → Prop) (v : Value) (g : Gr) (hb : gOk g = true) (h : RGr w S v g) : Calls Tryz.prog 35 #[v] w (IntB 0 w) := by
  have := graphFault_any w S v g h
  rwa [hb] at this
end Go.Proofs.YtllhimeffkefiaaGreatDoor
/- The specification's WeakParts, whole. No condition on the graph. -/
set_option linter.unusedVariables false
set_option linter.unusedSimpArgs false
namespace Go.Proofs.YtllhimeffkefiaaGreatDoor
open Go.RowKit Go.Sort

/-- within WeakParts, once the links are made (world W3): the row of numbers stands at W3's end -/
structure Wk (W3 W : World) (n : Nat) (nums : Nat → Int) : Prop where
  below : Below W3.heap.size W3 W
  num : ∀ j, j < n → W.cell? ⟨W3.heap.size, j, none⟩ = some (.int .i64 (nums j))
  fro : ∀ o, W.frozen? ⟨W3.heap.size, o, none⟩ = false
theorem Wk.step {W3 W W' : World} {n : Nat} {nums : Nat → Int} (h : Wk W3 W n nums) (hz : W3.heap.size < W.heap.size) (hb : Below W.heap.size W W') : Wk W3 W' n nums :=
  ⟨h.below.trans (hb.mono h.below.size), fun j hj => cell_kept (fun hl => hb.block _ hl) (h.num j hj), fun o => (World.frozen?_of_block (a := ⟨W3.heap.size, o, none⟩) (hb.block _ hz)).trans (h.fro o)⟩
theorem Wk.put {W3 W : World} {n : Nat} {nums : Nat → Int} (h : Wk W3 W n nums) {i : Nat} (hi : i < n) (x : Int) : Wk W3 (W.setCell ⟨W3.heap.size, i, none⟩ (.int .i64 x)) n (fun j => if j = i then x else nums j) := by
  refine ⟨⟨h.below.os, h.below.tape, h.below.output, by simp [World.setCell]; exact h.below.size, fun b hb => (Below.heap_setCell _ _ _ _ (by show b ≠ W3.heap.size; omega)).trans (h.below.block b hb)⟩, fun j hj => ?_, fun o => (World.frozen?_setCell _ _ _ _).trans (h.fro o)⟩
  by_cases e : j = i
  · subst e
    rw [if_pos rfl]
    exact World.cell?_setCell_same _ _ _ (h.num j hj)
  · rw [if_neg e]
    exact (World.cell?_setCell_other _ _ _ _ (fun q => e (by injection q with q1 q2; omega))).trans (h.num j hj)
theorem Mx.shape {base : Nat} {W : World} {v : Value} {k n : Nat} {gs : Nat → Nat} {M : Nat → Nat → Bool} (h : Mx base W v k n gs M) : ∃ u1 u2 u3, v = .slice u1 u2 u3 := by
  rcases h.own.2 with ⟨e, _⟩ | ⟨g, cap, cur, e, _⟩
  · exact ⟨_, _, _, e⟩
  · exact ⟨_, _, _, e⟩
/-- the number found among the places from m on -/
def Low (ids : List Nd) (s : Nat → Bool) (m : Nat) (x : Int) : Prop := (∃ (j : Nat) (hj : j < ids.length), m ≤ j ∧ s j = true ∧ x = ids[j].id ∧ ∀ k, m ≤ k → k < j → s k = false) ∨ ∀ k, m ≤ k → k < ids.length → s k = false
theorem Low.none (ids : List Nd) (s : Nat → Bool) (x : Int) : Low ids s ids.length x := .inr fun k h1 h2 => by omega
theorem Low.skip {ids : List Nd} {s : Nat → Bool} {m : Nat} {x : Int} (h : Low ids s (m + 1) x) (hs : s m = false) : Low ids s m x := by
  have st : ∀ k, m ≤ k → k = m ∨ m + 1 ≤ k := fun k h => by omega
  rcases h with ⟨j, hj, h1, h2, h3, h4⟩ | h
  · exact .inl ⟨j, hj, by omega, h2, h3, fun k a b => (st k a).elim (fun e => e ▸ hs) (fun q => h4 k q b)⟩
  · exact .inr fun k a b => (st k a).elim (fun e => e ▸ hs) (fun q => h k q b)
theorem Low.take {ids : List Nd} {s : Nat → Bool} {m : Nat} (hm : m < ids.length) (hs : s m = true) : Low ids s m ids[m].id := .inl ⟨m, hm, Nat.le_refl _, hs, rfl, fun k a b => by omega⟩
theorem Low.least {g : Gr} {s : Nat → Bool} {i : Nat} {x : Int} (h : Low g.nodes s 0 x) (hi : i < g.nodes.length) (hs : ∀ j, j < g.nodes.length → (s j = true ↔ Rch g.nodes.length (lnks g.nodes g.edges) i j)) : Least g i x := by
  rcases h with ⟨j, hj, _, h2, h3, h4⟩ | h
  · exact ⟨j, hj, h3, (hs j hj).1 h2, fun k hk hr => by
      have := (hs k (by omega)).2 hr
      rw [h4 k (Nat.zero_le _) hk] at this
      cases this⟩
  · have := (hs i hi).2 .refl
    rw [h i (Nat.zero_le _) hi] at this
    cases this
end Go.Proofs.YtllhimeffkefiaaGreatDoor
/- The law of the weak parts: it answers true, and nothing old turns. Condition: the library's variables are as they were laid. -/
set_option linter.unusedVariables false
set_option linter.unusedSimpArgs false
namespace Go.Proofs.YtllhimeffkefiaaGreatDoor
open Go.RowKit Go.Sort

/-! ### what lies, lies below the world's end -/
def Elem.In {α : Type} (E : Elem α) : Prop := ∀ w S f x, E w S f x → E w (fun b => S b ∧ b < w.heap.size) f x
theorem Row.within {α : Type} {sz : Nat} (hs : 0 < sz) {E : Elem α} (hE : E.In) {w : World} {S : Nat → Prop} {v : Value} {xs : List α} (h : Row sz E w S v xs) : Row sz E w (fun b => S b ∧ b < w.heap.size) v xs := by
  obtain ⟨a, c, hv, hl, h⟩ := h
  refine ⟨a, c, hv, hl, fun k x hx => ?_⟩
  obtain ⟨b, o, f, ha, hS, hc, he⟩ := h k x hx
  exact ⟨b, o, f, ha, ⟨hS, lt_of_cell (hc 0 hs)⟩, hc, hE w S f x he⟩
theorem EStr.in : EStr.In := fun _ _ _ _ h => h
theorem EFld.in : EFld.In := fun _ _ _ _ h => h
theorem EPt.in : EPt.In := fun _ _ _ _ h => h
theorem ENd.in : ENd.In := fun _ _ _ _ h => ⟨h.1, h.2.1.within (by decide) EStr.in, h.2.2.within (by decide) EFld.in⟩
theorem EEd.in : EEd.In := fun _ _ _ _ h => ⟨h.1, h.2.1, h.2.2.1, h.2.2.2.1, h.2.2.2.2.1.within (by decide) EFld.in, h.2.2.2.2.2⟩
theorem RGr.within {w : World} {S : Nat → Prop} {v : Value} {g : Gr} (h : RGr w S v g) : RGr w (fun b => S b ∧ b < w.heap.size) v g := by
  obtain ⟨v1, v2, hv, h1, h2⟩ := h
  exact ⟨v1, v2, hv, h1.within (by decide) ENd.in, h2.within (by decide) EEd.in⟩
theorem RGr.shape {w : World} {S : Nat → Prop} {v : Value} {g : Gr} (h : RGr w S v g) : ∃ a1 c1 a2 c2, v = .agg #[.slice a1 g.nodes.length c1, .slice a2 g.edges.length c2] := by
  obtain ⟨v1, v2, rfl, h1, h2⟩ := h
  obtain ⟨a1, c1, rfl⟩ := h1.shape
  obtain ⟨a2, c2, rfl⟩ := h2.shape
  exact ⟨a1, c1, a2, c2, rfl⟩

/-! ### what a small graph keeps to -/
theorem sum_le_of_mem : ∀ {l : List Nat} {x : Nat}, x ∈ l → x ≤ l.sum
  | [], x, h => by simp at h
  | y :: l, x, h => by
    rw [List.sum_cons]
    rcases List.mem_cons.1 h with e | e
    · subst e; omega
    · have := sum_le_of_mem e; omega
theorem tot_len {α : Type} (f : α → Nat) (l : List α) : l.length ≤ tot (l.map f) := by unfold tot; rw [List.length_map]; omega
theorem tot_mem {α : Type} (f : α → Nat) {l : List α} {x : α} (h : x ∈ l) : f x ≤ tot (l.map f) := by
  have := sum_le_of_mem (List.mem_map.2 ⟨x, h, rfl⟩ : f x ∈ l.map f)
  unfold tot
  omega
theorem sum_le_tot {α : Type} (f c : α → Nat) (k : Nat) (hk : ∀ x, c x ≤ k + k * f x) : ∀ l : List α, (l.map c).sum ≤ k * tot (l.map f)
  | [] => Nat.zero_le _
  | x :: l => by
    have h1 := sum_le_tot f c k hk l
    have h2 := hk x
    unfold tot at h1 ⊢
    rw [List.length_map] at h1 ⊢
    rw [List.map_cons, List.sum_cons, List.map_cons, List.sum_cons, List.length_cons, Nat.mul_add, Nat.mul_add, Nat.mul_add]
    rw [Nat.mul_add] at h1
    omega
theorem small_of {g : Gr} (h : bGr g ≤ 1048576) : g.nodes.length ≤ 1048576 ∧ g.edges.length ≤ 1048576 ∧ (∀ n ∈ g.nodes, n.labels.length ≤ 1048576 ∧ n.fields.length ≤ 1048576) ∧ (∀ n ∈ g.edges, n.fields.length ≤ 1048576) ∧ 1 + cGr g < 1000000000 := by
  unfold bGr bNds bEds at h
  have h1 := tot_len bNd g.nodes
  have h2 := tot_len bEd g.edges
  refine ⟨by omega, by omega, fun n hn => ?_, fun n hn => ?_, ?_⟩
  · have : tot (n.labels.map ByteArray.size) + tot (n.fields.map bFld) ≤ tot (g.nodes.map bNd) := tot_mem bNd hn
    have a := tot_len ByteArray.size n.labels
    have b := tot_len bFld n.fields
    omega
  · have : n.type.size + tot (n.fields.map bFld) ≤ tot (g.edges.map bEd) := tot_mem bEd hn
    have b := tot_len bFld n.fields
    omega
  · have a := sum_le_tot bNd cNd 4 (fun x => by
      have a := tot_len ByteArray.size x.labels
      have b := tot_len bFld x.fields
      unfold bNd bStrs bFlds cNd
      omega) g.nodes
    have b := sum_le_tot bEd cEd 4 (fun x => by
      have b := tot_len bFld x.fields
      unfold bEd bFlds cEd
      omega) g.edges
    unfold cGr
    omega
theorem WeakX.len {g : Gr} {xs : List Pt} (h : WeakX g xs) : xs.length ≤ 200 := by
  cases hg : gOk g with
  | false => rw [h.1 hg]; simp
  | true =>
    obtain ⟨f, _, rfl⟩ := h.2 hg
    unfold ptsOf
    rw [List.length_map]
    exact (gOk_parts hg).1

/-- the argument's box, and all that was there before -/
structure Ag (w W : World) (v1 v2 : Value) : Prop where
  below : Below w.heap.size w W
  x0 : W.cell? ⟨w.heap.size, 0, none⟩ = some v1
  x1 : W.cell? ⟨w.heap.size, 1, none⟩ = some v2
theorem Ag.lt {w W : World} {v1 v2 : Value} (h : Ag w W v1 v2) : w.heap.size < W.heap.size := lt_of_cell h.x0
theorem Ag.low {w W W' : World} {v1 v2 : Value} (h : Ag w W v1 v2) {B : Nat} (hB : w.heap.size < B) (hb : Below B W W') : Ag w W' v1 v2 :=
  ⟨h.below.trans (hb.mono (by omega)), cell_kept (fun _ => hb.block _ hB) h.x0, cell_kept (fun _ => hb.block _ hB) h.x1⟩
theorem Ag.step {w W W' : World} {v1 v2 : Value} (h : Ag w W v1 v2) (hb : Below W.heap.size W W') : Ag w W' v1 v2 := h.low h.lt hb
theorem Wr.low {S : Nat → Prop} {w w' : World} (h : Wr S w w') {B : Nat} (hB : B ≤ w.heap.size) (hS : ∀ b, S b → B ≤ b) : Below B w w' :=
  ⟨h.os, h.tape, h.output, h.size, fun b hb => h.off b (by omega) (fun q => by have := hS b q; omega)⟩
/-- the law answers true; nothing old has turned -/
def SaysTrue (w : World) (e : Ending) (w' : World) : Prop := e = .returned (.bool true) ∧ Below w.heap.size w w'

end Go.Proofs.YtllhimeffkefiaaGreatDoor
