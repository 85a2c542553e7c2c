/- Texts of one proof, joined in their order: each bears its own word of what it holds and on what condition. -/
import Derived.Test.YtllhimeffkefiaaGreatDoorMP
import Derived.Test.YtllhimeffkefiaaGreatDoorMN
import Derived.Maps.OwnSet
import Derived.Test.YtllhimeffkefiaaGreatDoorShL
import Derived.Lib.OwnBridge
import Derived.Lib.SlKeysI
import Derived.Deep.AppendLies
set_option linter.unusedVariables false
set_option linter.unusedSimpArgs false
/- A map from int64 to rows of int64, all of the call's own. No condition. -/
set_option linter.unusedVariables false
set_option linter.unusedSimpArgs false
namespace Go.Proofs.YtllhimeffkefiaaGreatDoor
open Go.RowKit Go.Sort
open Go.Maps (Keyed)

def slElem (v : Value) : Option (DataW Value × List MemPlace) := match v with
  | .slice a n c => some (.held (.slice a n c), [])
  | _ => none
theorem slElem_inv {v : Value} {y : DataW Value × List MemPlace} (h : slElem v = some y) : ∃ a n c, v = .slice a n c ∧ y = (.held v, []) := by
  unfold slElem at h
  split at h
  · injection h with h; exact ⟨_, _, _, rfl, h.symm⟩
  · cases h
abbrev nilS : Value := .slice none 0 0
def updV (F : Int → Value) (id : Int) (v : Value) : Int → Value := fun j => if j = id then v else F j
def updL (L : Int → List Int) (id : Int) (l : List Int) : Int → List Int := fun j => if j = id then l else L j
/-- the map in block b holds keys of ks alone; F says what stands at each -/
def MapV (w : World) (b : Nat) (ks : List Int) (F : Int → Value) : Prop :=
  ∃ l : List (Lit × DataW Value), w.ownsMap Tryz.prog 2 slElem b ks.length (.map l) ∧ (∀ p ∈ l, ∃ id ∈ ks, p.1 = .int .i64 id) ∧ ∀ id, (DataW.map l).atKey (.int .i64 id) (.held nilS) = .held (F id)
theorem MapV.made (w : World) (ks : List Int) : MapV (w.alloc (.map #[] 0)) w.heap.size ks (fun _ => nilS) := ⟨[], (World.ownsMap_made w _ _ _).mono (Nat.zero_le _), by simp, fun _ => rfl⟩
theorem MapV.lt {w : World} {b : Nat} {ks : List Int} {F : Int → Value} (h : MapV w b ks F) : b < w.heap.size := h.elim fun _ h => h.1.lt
theorem MapV.block {w w' : World} {b : Nat} {ks : List Int} {F : Int → Value} (h : MapV w b ks F) (hb : w'.heap[b]? = w.heap[b]?) : MapV w' b ks F := by
  obtain ⟨l, ⟨es, clock, h1, h2⟩, h3⟩ := h
  exact ⟨l, ⟨es, clock, hb.trans h1, h2⟩, h3⟩
theorem zero39 (w : World) : (zeroValue 27).run Tryz.prog w = .ok nilS w := by kernel_rfl
theorem MapV.look {w : World} {b : Nat} {ks : List Int} {F : Int → Value} (h : MapV w b ks F) {id : Int} (hi : I64 id) :
    (∃ a n c, F id = .slice a n c) ∧ (Instr.lookup 129 (.map (some b)) (.int .i64 id) false).run Tryz.prog w = .ok (F id) w := by
  obtain ⟨l, h1, _, h2⟩ := h
  obtain ⟨v, ps, hr, hv⟩ := h1.lookup kmap2 Tryz.underlying129 (zero39 w) (zd := .held nilS) (zp := []) rfl (key2 hi)
  obtain ⟨a, n, c, rfl, e⟩ := slElem_inv hv
  rw [h2 id] at e
  have e := congrArg Prod.fst e
  injection e with e
  rw [e]
  exact ⟨⟨a, n, c, rfl⟩, hr⟩
theorem keys_leV : ∀ (l : List (Lit × DataW Value)) (ks : List Int), l.Pairwise (fun p q => p.1 ≠ q.1) → (∀ p ∈ l, ∃ id ∈ ks, p.1 = .int .i64 id) → l.length ≤ ks.length
  | [], ks, _, _ => Nat.zero_le _
  | p :: l, ks, hp, hk => by
    obtain ⟨id, hid, he⟩ := hk p (by simp)
    rw [List.pairwise_cons] at hp
    have := keys_leV l (ks.erase id) hp.2 (fun q hq => by
      obtain ⟨jd, hjd, hj⟩ := hk q (by simp [hq])
      refine ⟨jd, (List.mem_erase_of_ne ?_).2 hjd, hj⟩
      rintro rfl
      exact hp.1 q hq (he.trans hj.symm))
    rw [List.length_erase_of_mem hid] at this
    have : 0 < ks.length := List.length_pos_of_mem hid
    simp only [List.length_cons]
    omega
theorem MapV.put {w : World} {b : Nat} {ks : List Int} {F : Int → Value} (h : MapV w b ks F) (hn : ks.length < 1048576) {id : Int} (hk : id ∈ ks) (hi : I64 id) (a : Option Addr) (n c : Nat) :
    ∃ w', (Instr.mapUpdate 129 (.map (some b)) (.int .i64 id) (.slice a n c)).run Tryz.prog w = .ok () w' ∧ MapV w' b ks (updV F id (.slice a n c)) ∧ w.grownBy w' (some b) := by
  obtain ⟨l, h1, hm, h2⟩ := h
  obtain ⟨w', hr, ho, hg⟩ := h1.update kmap2 Tryz.underlying129 (by unfold maxLen; omega) (key2 hi) (val := .slice a n c) (d := .held (.slice a n c)) (ps := []) rfl
  have hm2 : ∀ p ∈ ChangeMaps.putKey (.int .i64 id) (.held (.slice a n c)) l, ∃ id ∈ ks, p.1 = .int .i64 id := fun p hp => by
    unfold ChangeMaps.putKey at hp
    rcases ChangeMaps.mem_insert_iff.1 hp with e | e
    · exact ⟨id, hk, by rw [e]⟩
    · exact hm p (List.mem_filter.1 e).1
  rw [DataW.put_eq] at ho
  obtain ⟨l2, e2, hd, _⟩ := ho.entries kmap2
  cases e2
  have hlen := keys_leV _ ks hd hm2
  refine ⟨w', hr, ⟨_, ?_, hm2, fun j => ?_⟩, hg⟩
  · obtain ⟨es, clock, hb, Ft, hs, hD⟩ := ho
    refine ⟨es, clock, hb, Ft, ?_, hD⟩
    injection hD with hD
    rw [hD, length_sorted] at hlen
    simpa using hlen
  · rw [← DataW.put_eq]
    show _ = DataW.held (if j = id then .slice a n c else F j)
    by_cases hj : j = id
    · subst hj
      rw [if_pos rfl, Maps.atKey_put_same ⟨_, rfl⟩ (keyLit _)]
    · rw [if_neg hj, Maps.atKey_put_other (fun e => hj (by injection e)), h2]
/-- each key's row is the call's own, from base on; no two share a block -/
structure RowsV (w : World) (base : Nat) (F : Int → Value) (L : Int → List Int) : Prop where
  own : ∀ id, w.ownsRow base 2 1 (F id) (L id).length ((L id).map (Value.int .i64))
  sep : ∀ i j, i ≠ j → ∀ q, (F i).ownBlock = some q → (F j).ownBlock ≠ some q
theorem RowsV.made (w : World) (base : Nat) : RowsV w base (fun _ => nilS) (fun _ => []) := ⟨fun _ => World.ownsRow_nil _ _ _ _, fun i j _ q h => by cases h⟩
theorem RowsV.kept {w w' : World} {base : Nat} {F : Int → Value} {L : Int → List Int} (h : RowsV w base F L) (hk : ∀ b, base ≤ b → b < w.heap.size → w'.heap[b]? = w.heap[b]?) : RowsV w' base F L := ⟨fun id => own_kept (h.own id) hk, h.sep⟩
theorem RowsV.put {w w' : World} {base : Nat} {F : Int → Value} {L : Int → List Int} (h : RowsV w base F L) (i : Int) {v : Value} {l : List Int} (hg : ∀ b, base ≤ b → b < w.heap.size → (F i).ownBlock ≠ some b → w'.heap[b]? = w.heap[b]?)
    (hv : ∀ q, v.ownBlock = some q → (F i).ownBlock = some q ∨ w.heap.size ≤ q) (hown : w'.ownsRow base 2 1 v l.length (l.map (Value.int .i64))) : RowsV w' base (updV F i v) (updL L i l) := by
  have hlt : ∀ j q, (F j).ownBlock = some q → base ≤ q ∧ q < w.heap.size := fun j q e => (h.own j).lt q e
  refine ⟨fun id => ?_, fun a b hab q ha hb => ?_⟩
  · unfold updV updL
    by_cases e : id = i
    · rw [if_pos e, if_pos e]; exact hown
    · rw [if_neg e, if_neg e]
      have ho := h.own id
      refine ⟨ho.1, ?_⟩
      rcases ho.2 with hn | ⟨g, cap, cur, he, hb, hgg, rest⟩
      · exact .inl hn
      · have hob : (F id).ownBlock = some g := by rw [he]; rfl
        exact .inr ⟨g, cap, cur, he, hb, (hg g hb (Array.getElem?_eq_some_iff.1 hgg).1 (fun q => h.sep id i e g hob q)).trans hgg, rest⟩
  · unfold updV at ha hb
    by_cases ea : a = i
    · rw [if_pos ea] at ha
      by_cases eb : b = i
      · exact hab (ea.trans eb.symm)
      · rw [if_neg eb] at hb
        rcases hv q ha with e | e
        · exact h.sep i b (fun z => eb z.symm) q e hb
        · have := (hlt b q hb).2; omega
    · rw [if_neg ea] at ha
      by_cases eb : b = i
      · rw [if_pos eb] at hb
        rcases hv q hb with e | e
        · exact h.sep i a (fun z => ea z.symm) q e ha
        · have := (hlt a q ha).2; omega
      · rw [if_neg eb] at hb; exact h.sep a b hab q ha hb
end Go.Proofs.YtllhimeffkefiaaGreatDoor
/- slices.Contains and slices.Sort at rows of int64 of the call's own; the step of impl's neighbours that puts one down. Condition: the rows are short. -/
set_option linter.unusedVariables false
set_option linter.unusedSimpArgs false
namespace Go.Proofs.YtllhimeffkefiaaGreatDoor
open Go.RowKit Go.Sort

theorem contains_row (w : World) (base : Nat) (v : Value) (l : List Int) (h : w.ownsRow base 2 1 v l.length (l.map (Value.int .i64))) (hl : l.length ≤ 1048576) (x : Int) :
    Calls Tryz.prog 77 #[v, .int .i64 x] w (fun e w' => e = .returned (.bool (l.contains x)) ∧ w' = w) := by
  by_cases h0 : l.length = 0
  · have : l = [] := List.length_eq_zero_iff.1 h0
    subst this
    rcases h.2 with ⟨rfl, _⟩ | ⟨g, cap, cur, rfl, _⟩
    · exact Tryz.slices_Contains_i64_empty _ _ _ _
    · exact Tryz.slices_Contains_i64_empty _ _ _ _
  · obtain ⟨g, c, rfl, _, _, ha, _⟩ := own_at h (by omega)
    have := Tryz.slices_Contains_i64 g 0 l.length c l x w (Nat.le_refl _) (by omega) (fun j hj => ha j _ (by rw [List.getElem?_map, List.getElem?_eq_getElem hj]; simp [hj]))
    rwa [List.take_length] at this
theorem sort_row (w : World) (base : Nat) (v : Value) (l : List Int) (h : w.ownsRow base 2 1 v l.length (l.map (Value.int .i64))) (hl : l.length ≤ 1048576) :
    Calls Tryz.prog 89 #[v] w (fun e w' => e = .returned (.tuple #[]) ∧ ∃ l' : List Int, l'.Perm l ∧ w'.ownsRow base 2 1 v l'.length (l'.map (Value.int .i64)) ∧ w.grownBy w' v.ownBlock) := by
  have same : ∀ (e : Ending) (w' : World), (e = .returned (.tuple #[]) ∧ w' = w) → e = .returned (.tuple #[]) ∧ ∃ l' : List Int, l'.Perm l ∧ w'.ownsRow base 2 1 v l'.length (l'.map (Value.int .i64)) ∧ w.grownBy w' v.ownBlock := by
    rintro e w' ⟨rfl, rfl⟩
    exact ⟨rfl, l, List.Perm.refl _, h, rfl, rfl, rfl, Nat.le_refl _, fun _ _ _ => rfl⟩
  by_cases h0 : l.length = 0
  · rcases h.2 with ⟨rfl, _⟩ | ⟨g, cap, cur, rfl, _⟩
    · exact (Tryz.slices_Sort_i64_none _ _ _).mono same
    · rw [h0]
      exact (Tryz.slices_Sort_i64_none _ _ _).mono (by rw [h0] at same; exact same)
  · obtain ⟨g, c, rfl, _, hg, ha, _, _, hf⟩ := own_at h (by omega)
    have hH : Holds (Value.int .i64) w g 0 l.toArray := fun j hj => by
      have hj : j < l.length := by simpa using hj
      refine ⟨ha j _ ?_, hf _⟩
      rw [List.getElem?_map, List.getElem?_eq_getElem hj]
      simp [hj]
    refine (Tryz.slices_Sort_i64 g 0 c l w hH hg (by omega)).mono ?_
    rintro e w' ⟨rfl, n, os, rfl⟩
    have hp : (l.mergeSort fun x y => decide (x ≤ y)).Perm l := List.mergeSort_perm l _
    refine ⟨rfl, _, hp, ?_, grownBy_sorted_i _⟩
    have := Lib.ownsRow_putRow (q := n) (k := l.length) h hp.length_eq (Nat.le_refl _)
    rw [List.take_of_length_le (Nat.le_of_eq hp.length_eq)] at this
    rw [hp.length_eq]
    exact own_kept this (fun b _ hb => heap_grow_old _ _ hb)
end Go.Proofs.YtllhimeffkefiaaGreatDoor
