/- Texts of one proof, joined in their order: each bears its own word of what it holds and on what condition. -/
import Derived.Test.YtllhimeffkefiaaGreatDoorMVw
import Derived.ChangeMaps
import Derived.Maps.Range
import Derived.Deep.LoopGhost
import Derived.Deep.Cut
import Derived.Test.YtllhimeffkefiaaGreatDoorMA
import Derived.Deep.AppendLies
import Derived.Deep.RegionHeldLaw
set_option linter.unusedVariables false
set_option linter.unusedSimpArgs false
/- Weak parts: the plain law of impl's sweeps; a map that holds just these keys. No walk here. -/
set_option linter.unusedVariables false
namespace Go.Proofs.YtllhimeffkefiaaGreatDoor
open Go.RowKit Go.Sort
open Go.Maps (Keyed)

/-! ### a map with these keys -/
def MapK (E : TypeId) (w : World) (b : Nat) (ks : List Int) (f : Int → Int) : Prop :=
  ∃ l : List (Lit × DataW Unit), w.ownsMap Tryz.prog 2 (plainElem Tryz.prog E) b ks.length (.map l) ∧ (∀ p ∈ l, ∃ id ∈ ks, p.1 = .int .i64 id) ∧ ∀ id, (DataW.map l).atKey (.int .i64 id) (.lit (.int .i64 0)) = .lit (.int .i64 (f id))
theorem MapK.made (E : TypeId) (w : World) (ks : List Int) : MapK E (w.alloc (.map #[] 0)) w.heap.size ks (fun _ => 0) := ⟨[], (World.ownsMap_made w _ _ _).mono (Nat.zero_le _), by simp, fun _ => rfl⟩
theorem MapK.lt {E : TypeId} {w : World} {b : Nat} {ks : List Int} {f : Int → Int} (h : MapK E w b ks f) : b < w.heap.size := h.elim fun _ h => h.1.lt
theorem MapK.below {E : TypeId} {w w' : World} {b : Nat} {ks : List Int} {f : Int → Int} (h : MapK E w b ks f) (hb : w'.heap[b]? = w.heap[b]?) : MapK E w' b ks f := by
  obtain ⟨l, ⟨es, clock, h1, h2⟩, h3⟩ := h
  exact ⟨l, ⟨es, clock, hb.trans h1, h2⟩, h3⟩
theorem MapK.look {E T : TypeId} (ht : Tryz.prog.underlying T = some (.map 2 E)) (he : Tryz.prog.underlying E = some (.int .i64)) {w : World} {b : Nat} {ks : List Int} {f : Int → Int} (h : MapK E w b ks f) (hz : (zeroValue E).run Tryz.prog w = .ok (.int .i64 0) w) {id : Int} (hi : I64 id) :
    (Instr.lookup T (.map (some b)) (.int .i64 id) false).run Tryz.prog w = .ok (.int .i64 (f id)) w := by
  obtain ⟨l, h1, _, h2⟩ := h
  obtain ⟨c, hr, hc, _⟩ := h1.lookup_int kmap2 ht he hz (key2 hi)
  rw [h2 id] at hc
  cases hc
  exact hr
theorem keys_le : ∀ (l : List (Lit × DataW Unit)) (ks : List Int), l.Pairwise (fun p q => p.1 ≠ q.1) → (∀ p ∈ l, ∃ id ∈ ks, p.1 = .int .i64 id) → l.length ≤ ks.length
  | [], ks, _, _ => Nat.zero_le _
  | p :: l, ks, hp, hk => by
    obtain ⟨id, hid, he⟩ := hk p (by simp)
    rw [List.pairwise_cons] at hp
    have := keys_le l (ks.erase id) hp.2 (fun q hq => by
      obtain ⟨jd, hjd, hj⟩ := hk q (by simp [hq])
      refine ⟨jd, (List.mem_erase_of_ne ?_).2 hjd, hj⟩
      rintro rfl
      exact hp.1 q hq (he.trans hj.symm))
    rw [List.length_erase_of_mem hid] at this
    have : 0 < ks.length := List.length_pos_of_mem hid
    simp only [List.length_cons]
    omega
theorem MapK.put {E T : TypeId} (ht : Tryz.prog.underlying T = some (.map 2 E)) (he : Tryz.prog.underlying E = some (.int .i64)) {w : World} {b : Nat} {ks : List Int} {f : Int → Int} (h : MapK E w b ks f) (hn : ks.length < 1048576) {id x : Int} (hk : id ∈ ks) (hi : I64 id) (hx : I64 x) :
    ∃ w', (Instr.mapUpdate T (.map (some b)) (.int .i64 id) (.int .i64 x)).run Tryz.prog w = .ok () w' ∧ MapK E w' b ks (upd f id x) ∧ w.grownBy w' (some b) := by
  obtain ⟨l, h1, hm, h2⟩ := h
  obtain ⟨w', hr, ho, hg⟩ := h1.update kmap2 ht (by unfold maxLen; omega) (key2 hi) (plainElem_int he hx.wf)
  have hm2 : ∀ p ∈ ChangeMaps.putKey (.int .i64 id) (.lit (.int .i64 x)) l, ∃ id ∈ ks, p.1 = .int .i64 id := fun p hp => by
    unfold ChangeMaps.putKey at hp
    rcases ChangeMaps.mem_insert_iff.1 hp with e | e
    · exact ⟨id, hk, by rw [e]⟩
    · exact hm p (List.mem_filter.1 e).1
  rw [DataW.put_eq] at ho
  obtain ⟨l2, e2, hd, _⟩ := ho.entries kmap2
  cases e2
  have hlen := keys_le _ ks hd hm2
  refine ⟨w', hr, ⟨_, ?_, hm2, fun j => ?_⟩, hg⟩
  · obtain ⟨es, clock, hb, F, hs, hD⟩ := ho
    refine ⟨es, clock, hb, F, ?_, hD⟩
    injection hD with hD
    rw [hD, length_sorted] at hlen
    simpa using hlen
  · rw [← DataW.put_eq]
    show _ = DataW.lit (Lit.int .i64 (if j = id then x else f j))
    by_cases hj : j = id
    · subst hj
      rw [if_pos rfl, Maps.atKey_put_same ⟨_, rfl⟩ (keyLit _)]
    · rw [if_neg hj, Maps.atKey_put_other (fun e => hj (by injection e)), h2]

/-! ### parts -/
inductive Con (es : List Ed) : Int → Int → Prop
  | refl (a : Int) : Con es a a
  | step {a b c : Int} : Con es a b → (∃ e ∈ es, (e.src = b ∧ e.dst = c) ∨ (e.dst = b ∧ e.src = c)) → Con es a c
theorem Con.trans {es : List Ed} {a b c : Int} (h : Con es a b) (k : Con es b c) : Con es a c := by
  induction k with
  | refl => exact h
  | step _ he ih => exact ih.step he
theorem Con.one {es : List Ed} {e : Ed} (h : e ∈ es) : Con es e.src e.dst := (Con.refl _).step ⟨e, h, .inl ⟨rfl, rfl⟩⟩
theorem Con.one' {es : List Ed} {e : Ed} (h : e ∈ es) : Con es e.dst e.src := (Con.refl _).step ⟨e, h, .inr ⟨rfl, rfl⟩⟩
theorem Con.symm {es : List Ed} {a b : Int} (h : Con es a b) : Con es b a := by
  induction h with
  | refl => exact Con.refl _
  | step _ he ih =>
    obtain ⟨e, hm, h1 | h1⟩ := he
    · exact Con.trans (h1.1 ▸ h1.2 ▸ Con.one' hm) ih
    · exact Con.trans (h1.1 ▸ h1.2 ▸ Con.one hm) ih
/-- f is of each key the least of its part -/
def IsPart (ks : List Int) (es : List Ed) (f : Int → Int) : Prop := ∀ id ∈ ks, f id ∈ ks ∧ Con es id (f id) ∧ ∀ y ∈ ks, Con es id y → f id ≤ y
theorem IsPart.same {ks : List Int} {es : List Ed} {f g : Int → Int} (hf : IsPart ks es f) (hg : IsPart ks es g) : ∀ id ∈ ks, f id = g id := fun id h => by
  obtain ⟨a1, a2, a3⟩ := hf id h
  obtain ⟨b1, b2, b3⟩ := hg id h
  have := a3 _ b1 b2
  have := b3 _ a1 a2
  omega
def PInv (ks : List Int) (es : List Ed) (f : Int → Int) : Prop := ∀ id ∈ ks, f id ∈ ks ∧ Con es id (f id) ∧ f id ≤ id
def Fix (es : List Ed) (f : Int → Int) : Prop := ∀ e ∈ es, f e.src = f e.dst
theorem PInv.part {ks : List Int} {es : List Ed} {f : Int → Int} (h : PInv ks es f) (hx : Fix es f) : IsPart ks es f := fun id hid => by
  refine ⟨(h id hid).1, (h id hid).2.1, fun y hy hc => ?_⟩
  have : f id = f y := by
    clear hy
    induction hc with
    | refl => rfl
    | step _ he ih =>
      obtain ⟨e, hm, h1 | h1⟩ := he
      · rw [ih, ← h1.1, ← h1.2]; exact hx e hm
      · rw [ih, ← h1.1, ← h1.2]; exact (hx e hm).symm
  rw [this]
  exact (h y hy).2.2
def relax (f : Int → Int) (a b : Int) : Int → Int := upd (upd f a (min (f a) (f b))) b (min (f a) (f b))
theorem relax_le (f : Int → Int) (a b id : Int) : relax f a b id ≤ f id := by
  unfold relax upd
  split
  · rename_i h; subst h; exact Int.min_le_right _ _
  · split
    · rename_i h; subst h; exact Int.min_le_left _ _
    · exact Int.le_refl _
theorem PInv.relax {ks : List Int} {es : List Ed} {f : Int → Int} (h : PInv ks es f) {e : Ed} (he : e ∈ es) (ha : e.src ∈ ks) (hb : e.dst ∈ ks) : PInv ks es (relax f e.src e.dst) := fun id hid => by
  have hm : min (f e.src) (f e.dst) ∈ ks ∧ Con es e.src (min (f e.src) (f e.dst)) ∧ Con es e.dst (min (f e.src) (f e.dst)) := by
    by_cases hle : f e.src ≤ f e.dst
    · rw [Int.min_eq_left hle]
      exact ⟨(h _ ha).1, (h _ ha).2.1, (Con.one' he).trans (h _ ha).2.1⟩
    · rw [Int.min_eq_right (by omega)]
      exact ⟨(h _ hb).1, (Con.one he).trans (h _ hb).2.1, (h _ hb).2.1⟩
  refine ⟨?_, ?_, Int.le_trans (relax_le _ _ _ _) (h id hid).2.2⟩
  all_goals unfold Proofs.YtllhimeffkefiaaGreatDoor.relax upd
  · split
    · exact hm.1
    · split
      · exact hm.1
      · exact (h id hid).1
  · split
    · rename_i q; subst q; exact hm.2.2
    · split
      · rename_i q; subst q; exact hm.2.1
      · exact (h id hid).2.1
def sumF (ks : List Int) (f : Int → Int) : Nat := (ks.map fun id => (f id).toNat).sum
theorem sumF_le {f g : Int → Int} : ∀ {ks : List Int}, (∀ id ∈ ks, g id ≤ f id) → sumF ks g ≤ sumF ks f
  | [], _ => by simp [sumF]
  | k :: ks, h => by
    have h1 := sumF_le (f := f) (g := g) (ks := ks) (fun id hi => h id (by simp [hi]))
    have h2 := h k (by simp)
    simp only [sumF, List.map_cons, List.sum_cons] at *
    omega
theorem sumF_lt {f g : Int → Int} : ∀ {ks : List Int} {a : Int}, (∀ id ∈ ks, g id ≤ f id) → a ∈ ks → g a < f a → 0 < f a → sumF ks g < sumF ks f
  | [], a, _, h, _, _ => by simp at h
  | k :: ks, a, h, ha, hlt, hp => by
    have h2 := h k (by simp)
    rcases List.mem_cons.1 ha with e | e
    · subst e
      have h1 := sumF_le (f := f) (g := g) (ks := ks) (fun id hi => h id (by simp [hi]))
      simp only [sumF, List.map_cons, List.sum_cons] at *
      omega
    · have h1 := sumF_lt (ks := ks) (fun id hi => h id (by simp [hi])) e hlt hp
      simp only [sumF, List.map_cons, List.sum_cons] at *
      omega
theorem relax_lt {ks : List Int} {f : Int → Int} {a b : Int} (ha : a ∈ ks) (hb : b ∈ ks) (hp : ∀ id ∈ ks, 0 < f id) (h : f a ≠ min (f a) (f b) ∨ f b ≠ min (f a) (f b)) : sumF ks (relax f a b) < sumF ks f := by
  by_cases hle : f a ≤ f b
  · rw [Int.min_eq_left hle] at h
    have hlt : f a < f b := by omega
    refine sumF_lt (a := b) (fun id _ => relax_le f a b id) hb ?_ (hp b hb)
    unfold relax upd
    rw [if_pos rfl, Int.min_eq_left hle]
    exact hlt
  · rw [Int.min_eq_right (by omega)] at h
    refine sumF_lt (a := a) (fun id _ => relax_le f a b id) ha ?_ (hp a ha)
    unfold relax upd
    rw [Int.min_eq_right (by omega)]
    split
    · omega
    · rw [if_pos rfl]; omega
theorem upd_comm (f : Int → Int) (a b m : Int) : upd (upd f a m) b m = upd (upd f b m) a m := by
  funext j
  unfold upd
  split <;> split <;> rfl
end Go.Proofs.YtllhimeffkefiaaGreatDoor
/- impl's weak parts: of each node the least Id of its part. Condition: a right graph. -/
set_option linter.unusedVariables false
set_option linter.unusedSimpArgs false
namespace Go.Proofs.YtllhimeffkefiaaGreatDoor
open Go.RowKit Go.Sort

def idsOf (ns : List Nd) : List Int := ns.map Nd.id
theorem gOk_parts {g : Gr} (h : gOk g = true) : g.nodes.length ≤ 200 ∧ g.edges.length ≤ 400 ∧ (∀ k, k < g.nodes.length → ndAt g.nodes k = true) ∧ ∀ k, k < g.edges.length → edAt g.nodes g.edges k = true := by
  unfold gOk at h
  simp only [Bool.and_eq_true, decide_eq_true_eq] at h
  exact ⟨h.1.1.1, h.1.1.2, allN_iff.1 h.1.2, allN_iff.1 h.2⟩
theorem gOk_id {g : Gr} (h : gOk g = true) {id : Int} (hi : id ∈ idsOf g.nodes) : 1 ≤ id ∧ id ≤ 1000000000000 := by
  obtain ⟨x, hx, rfl⟩ := List.mem_map.1 hi
  obtain ⟨k, hk, rfl⟩ := List.mem_iff_getElem.1 hx
  have := (gOk_parts h).2.2.1 k hk
  unfold ndAt at this
  simp only [Bool.and_eq_true] at this
  have h2 := ndB_id this.1
  rw [getD_eq hk] at h2
  simpa [okId] using h2
theorem thr_iff {ns : List Nd} {id : Int} : thr ns id = true ↔ id ∈ idsOf ns := by
  unfold thr idsOf
  rw [List.any_eq_true, List.mem_map]
  constructor
  · rintro ⟨x, hx, he⟩; exact ⟨x, hx, by simpa using he⟩
  · rintro ⟨x, hx, he⟩; exact ⟨x, hx, by simpa using he⟩
theorem gOk_ends {g : Gr} (h : gOk g = true) {k : Nat} (hk : k < g.edges.length) : g.edges[k].src ∈ idsOf g.nodes ∧ g.edges[k].dst ∈ idsOf g.nodes := by
  have := (gOk_parts h).2.2.2 k hk
  unfold edAt at this
  simp only [Bool.and_eq_true, getD_eq hk] at this
  exact ⟨thr_iff.1 this.1.2, thr_iff.1 this.2⟩
theorem gOk_step {g : Gr} (h : gOk g = true) {k : Nat} (hk : k + 1 < g.nodes.length) : g.nodes[k].id < g.nodes[k + 1].id := by
  have := (gOk_parts h).2.2.1 (k + 1) hk
  unfold ndAt at this
  simp only [Bool.and_eq_true, Bool.or_eq_true, decide_eq_true_eq, Nat.add_sub_cancel] at this
  rcases this.2 with q | q
  · omega
  · rwa [getD_eq hk, getD_eq (by omega)] at q
theorem gOk_rise {g : Gr} (h : gOk g = true) {i : Nat} : ∀ {j : Nat} (hj : j < g.nodes.length) (hij : i < j), g.nodes[i].id < g.nodes[j].id
  | 0, _, hij => by omega
  | j + 1, hj, hij => by
    have h1 := gOk_step h hj
    by_cases e : i = j
    · subst e; exact h1
    · exact Int.lt_trans (gOk_rise h (by omega) (by omega)) h1
/-- what is asked of a graph by the walks over it -/
structure Gw (g : Gr) : Prop where
  n : g.nodes.length ≤ 200
  e : g.edges.length ≤ 400
  id : ∀ id, id ∈ idsOf g.nodes → 1 ≤ id ∧ id ≤ 1000000000000
  ends : ∀ k (hk : k < g.edges.length), g.edges[k].src ∈ idsOf g.nodes ∧ g.edges[k].dst ∈ idsOf g.nodes
  rise : ∀ i j (hj : j < g.nodes.length) (hij : i < j), g.nodes[i].id < g.nodes[j].id
theorem gw_of {g : Gr} (h : gOk g = true) : Gw g := ⟨(gOk_parts h).1, (gOk_parts h).2.1, fun _ => gOk_id h, fun _ => gOk_ends h, fun _ _ => gOk_rise h⟩
theorem id_I64 {id : Int} (h : 1 ≤ id ∧ id ≤ 1000000000000) : I64 id := ⟨by omega, by omega⟩
def idF (ns : List Nd) (k : Nat) (id : Int) : Int := if thr (ns.take k) id then id else 0
theorem idF_zero (ns : List Nd) : idF ns 0 = fun _ => 0 := by
  funext id
  simp [idF, thr]
theorem idF_succ {ns : List Nd} {k : Nat} (h : k < ns.length) : upd (idF ns k) ns[k].id ns[k].id = idF ns (k + 1) := by
  funext id
  unfold upd idF thr
  rw [List.take_add_one, List.getElem?_eq_getElem h]
  simp only [Option.toList, List.any_append, List.any_cons, List.any_nil, Bool.or_false]
  by_cases e : id = ns[k].id
  · subst e; simp
  · rw [if_neg e, decide_eq_false (fun q => e q.symm), Bool.or_false]
theorem idF_all (ns : List Nd) {id : Int} (h : id ∈ idsOf ns) : idF ns ns.length id = id := by unfold idF; rw [List.take_length, if_pos (thr_iff.2 h)]
theorem zero2 (w : World) : (zeroValue 2).run Tryz.prog w = .ok (.int .i64 0) w := by kernel_rfl
theorem look57 {w : World} {b : Nat} {ks : List Int} {f : Int → Int} (h : MapK 2 w b ks f) {id x : Int} (hi : I64 id) (hx : f id = x) : (Instr.lookup 90 (.map (some b)) (.int .i64 id) false).run Tryz.prog w = .ok (.int .i64 x) w := hx ▸ h.look Tryz.underlying90 Tryz.underlying2 (zero2 w) hi

/-- within parts: the graph's box bg, the map bm -/
structure Gk (w W : World) (bg bm : Nat) (v1 v2 : Value) (ks : List Int) (f : Int → Int) : Prop where
  g0 : W.cell? ⟨bg, 0, none⟩ = some v1
  g1 : W.cell? ⟨bg, 1, none⟩ = some v2
  map : MapK 2 W bm ks f
  ne : bg ≠ bm
  lo : w.heap.size ≤ bg
  lm : w.heap.size ≤ bm
  below : Below w.heap.size w W
theorem Gk.step {w W W' : World} {bg bm : Nat} {v1 v2 : Value} {ks : List Int} {f : Int → Int} (h : Gk w W bg bm v1 v2 ks f) (hb : Below W.heap.size W W') : Gk w W' bg bm v1 v2 ks f :=
  ⟨cell_kept (fun hl => hb.block bg hl) h.g0, cell_kept (fun hl => hb.block bg hl) h.g1, h.map.below (hb.block bm h.map.lt), h.ne, h.lo, h.lm, h.below.trans (hb.mono h.below.size)⟩
theorem Gk.put {w W : World} {bg bm : Nat} {v1 v2 : Value} {ks : List Int} {f : Int → Int} (h : Gk w W bg bm v1 v2 ks f) (hn : ks.length < 1048576) {id x : Int} (hk : id ∈ ks) (hi : I64 id) (hx : I64 x) :
    ∃ W', (Instr.mapUpdate 90 (.map (some bm)) (.int .i64 id) (.int .i64 x)).run Tryz.prog W = .ok () W' ∧ Gk w W' bg bm v1 v2 ks (upd f id x) ∧ ∀ b o, b ≠ bm → b < W.heap.size → W'.cell? ⟨b, o, none⟩ = W.cell? ⟨b, o, none⟩ := by
  obtain ⟨W', hr, hm, hg⟩ := h.map.put Tryz.underlying90 Tryz.underlying2 hn hk hi hx
  have hne := h.ne
  have hlm := h.lm
  exact ⟨W', hr, ⟨cell_kept (fun hl => hg.block bg hl (fun e => hne (by injection e))) h.g0, cell_kept (fun hl => hg.block bg hl (fun e => hne (by injection e))) h.g1, hm, hne, h.lo, hlm,
    ⟨hg.os.trans h.below.os, hg.tape.trans h.below.tape, hg.output.trans h.below.output, Nat.le_trans h.below.size hg.size, fun b hb => (hg.block b (Nat.lt_of_lt_of_le hb h.below.size) (fun e => by injection e with e; omega)).trans (h.below.block b hb)⟩⟩,
    fun b o hb hl => World.cell?_of_block (a := ⟨b, o, none⟩) (hg.block b hl (fun e => hb (by injection e)))⟩
/-- a map of the call's own that holds f on these keys -/
def PartR (ks : List Int) (es : List Ed) (w : World) (e : Ending) (w' : World) : Prop :=
  ∃ bm f, e = .returned (.map (some bm)) ∧ MapK 2 w' bm ks f ∧ IsPart ks es f ∧ w.heap.size ≤ bm ∧ Below w.heap.size w w'

end Go.Proofs.YtllhimeffkefiaaGreatDoor
/- impl's row of parts: of each node what the map of the parts holds. Condition: a right graph. -/
set_option linter.unusedVariables false
set_option linter.unusedSimpArgs false
namespace Go.Proofs.YtllhimeffkefiaaGreatDoor
open Go.RowKit Go.Sort

def cP (x : Pt) : List Value := [.int .i64 x.node, .int .i64 x.num]
theorem cP_len : ∀ (xs : List Pt), (xs.flatMap cP).length = xs.length * 2
  | [] => rfl
  | x :: xs => by simp [List.flatMap_cons, cP, cP_len xs]; omega
theorem cP_get : ∀ (xs : List Pt) (k : Nat) (x : Pt), xs[k]? = some x → (xs.flatMap cP)[k * 2]? = some (.int .i64 x.node) ∧ (xs.flatMap cP)[k * 2 + 1]? = some (.int .i64 x.num)
  | [], k, x, h => by simp at h
  | y :: xs, 0, x, h => by
    simp at h
    subst h
    rw [List.flatMap_cons]
    exact ⟨rfl, rfl⟩
  | y :: xs, k + 1, x, h => by
    have := cP_get xs k x (by simpa using h)
    rw [List.flatMap_cons, List.getElem?_append_right (by simp [cP]; omega), List.getElem?_append_right (by simp [cP]; omega)]
    rw [show (k + 1) * 2 - (cP y).length = k * 2 by simp [cP]; omega, show (k + 1) * 2 + 1 - (cP y).length = k * 2 + 1 by simp [cP]; omega]
    exact this
theorem own_rpt {w : World} {base : Nat} {v : Value} {xs : List Pt} (h : w.ownsRow base 70 2 v xs.length (xs.flatMap cP)) (hl : xs.length ≤ 9223372036854775807) : RPt w (fun b => base ≤ b) v xs ∧ Own 2 w base v xs.length := by
  rcases h.2 with ⟨rfl, hn⟩ | ⟨g, cap, cur, rfl, hb, hgg, hc, hm, hs, ht⟩
  · have : xs = [] := List.length_eq_zero_iff.1 hn
    subst this
    exact ⟨nilRow _ _ _ _, none, 0, rfl, .inl rfl⟩
  · have hat : ∀ i u, (xs.flatMap cP)[i]? = some u → w.cell? ⟨g, i, none⟩ = some u := fun i u hu => by
      have hi : i < xs.length * 2 := by rw [← cP_len]; exact (List.getElem?_eq_some_iff.1 hu).1
      have e : (cur.toList.take (xs.length * 2))[i]? = some u := by rw [ht]; exact hu
      rw [List.getElem?_take, if_pos hi] at e
      have := World.news_of_block hgg i _ e
      rw [Addr.add_lit] at this
      rw [show i = 0 + i by omega]
      exact this
    refine ⟨⟨_, cap, rfl, hl, fun k x hx => ?_⟩, _, cap, rfl, .inr ⟨g, rfl, hb, (Array.getElem?_eq_some_iff.1 hgg).1, fun i hi => ?_, fun i => h.frozenAt i⟩⟩
    · obtain ⟨h0, h1⟩ := cP_get xs k x hx
      refine ⟨g, 0, fun j => if j = 0 then .int .i64 x.node else .int .i64 x.num, rfl, hb, fun j hj => ?_, rfl, rfl⟩
      rcases (show j = 0 ∨ j = 1 by omega) with rfl | rfl
      · rw [show 0 + k * 2 + 0 = k * 2 by omega]; exact hat _ _ h0
      · rw [show 0 + k * 2 + 1 = k * 2 + 1 by omega]; exact hat _ _ h1
    · have hi2 : i < (xs.flatMap cP).length := by rw [cP_len]; exact hi
      exact ⟨_, hat i _ (List.getElem?_eq_getElem hi2)⟩
/-- the parts, in a row of the call's own -/
def PtsR (xs : List Pt) (w : World) (e : Ending) (w' : World) : Prop := ∃ v, e = .returned v ∧ RPt w' (fun b => w.heap.size ≤ b) v xs ∧ Own 2 w' w.heap.size v xs.length ∧ Below w.heap.size w w'
def ptsOf (ns : List Nd) (f : Int → Int) : List Pt := ns.map fun x => ⟨x.id, f x.id⟩

end Go.Proofs.YtllhimeffkefiaaGreatDoor
/- impl's WeakParts, whole. Condition: the library's variables are as they were laid. -/
set_option linter.unusedVariables false
set_option linter.unusedSimpArgs false
namespace Go.Proofs.YtllhimeffkefiaaGreatDoor
open Go.RowKit Go.Sort

/-- what is handed back: no parts where the graph is not right, else each node with the least Id of its part -/
def WeakX (g : Gr) (xs : List Pt) : Prop := (gOk g = false → xs = []) ∧ (gOk g = true → ∃ f, IsPart (idsOf g.nodes) g.edges f ∧ xs = ptsOf g.nodes f)
theorem WeakX.same {g : Gr} {xs ys : List Pt} (h : WeakX g xs) (k : WeakX g ys) : xs = ys := by
  cases hg : gOk g with
  | false => rw [h.1 hg, k.1 hg]
  | true =>
    obtain ⟨f, hf, rfl⟩ := h.2 hg
    obtain ⟨f', hf', rfl⟩ := k.2 hg
    unfold ptsOf
    refine List.map_congr_left (fun x hx => ?_)
    rw [hf.same hf' x.id (List.mem_map.2 ⟨x, hx, rfl⟩)]
theorem Own.low {sz : Nat} {w : World} {B B' : Nat} {v : Value} {n : Nat} (h : Own sz w B v n) (hB : B' ≤ B) : Own sz w B' v n := by
  obtain ⟨a, c, hv, h⟩ := h
  exact ⟨a, c, hv, h.imp_right fun ⟨g, ha, hb, r⟩ => ⟨g, ha, Nat.le_trans hB hb, r⟩⟩
def WeakR (g : Gr) (w : World) (e : Ending) (w' : World) : Prop := ∃ xs, WeakX g xs ∧ PtsR xs w e w'
theorem PtsR.nil (w w' : World) (c : Nat) (a : Option Addr) (h : Below w.heap.size w w') : PtsR [] w (.returned (.slice a 0 c)) w' :=
  ⟨_, rfl, ⟨a, c, rfl, by simp, fun k x hx => by simp at hx⟩, ⟨a, c, rfl, .inl rfl⟩, h⟩
theorem graphOk_is (w : World) (hE : Env w) (S : Nat → Prop) (v : Value) (g : Gr) (b : Bool) (hb : gOk g = b) (h : RGr w S v g) : Calls Tryz.prog 48 #[v] w (BoolB b w) := hb ▸ graphOk_any w hE S v g h
end Go.Proofs.YtllhimeffkefiaaGreatDoor
