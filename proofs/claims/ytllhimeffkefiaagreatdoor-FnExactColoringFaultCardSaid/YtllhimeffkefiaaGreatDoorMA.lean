/- Texts of one proof, joined in their order: each bears its own word of what it holds and on what condition. -/
import Derived.Test.YtllhimeffkefiaaGreatDoorProg
import Derived.WalkKit
import Derived.KernelRfl
import Derived.Below
import Derived.Lib.Hide
import Derived.Outline
import Derived.Laws.MakeOwn
import Derived.Laws.IdiomStrings
import Derived.Deep.QuietTactic
import Derived.BigQuiet
import Derived.Deep.RegionHeld3
import Derived.Sort.EncStr
import Derived.StillTailTactics
set_option linter.unusedVariables false
set_option linter.unusedSimpArgs false
/- Plain data of graphs, and how they lie in memory: rows of cells; what stays so while memory grows. No condition. -/
namespace Go.Proofs.YtllhimeffkefiaaGreatDoor
open Go.RowKit

structure Fld where
  name : ByteArray
  value : ByteArray
structure Nd where
  id : Int
  labels : List ByteArray
  fields : List Fld
structure Ed where
  id : Int
  type : ByteArray
  src : Int
  dst : Int
  fields : List Fld
structure Gr where
  nodes : List Nd
  edges : List Ed

/-- how an element lies: a world, which blocks it may use, its cells -/
abbrev Elem (α : Type) := World → (Nat → Prop) → (Nat → Value) → α → Prop

/-- a slice's value reads as the list xs; each element has sz cells; all that is used lies in blocks of S -/
def Row {α : Type} (sz : Nat) (E : Elem α) (w : World) (S : Nat → Prop) (v : Value) (xs : List α) : Prop :=
  ∃ a c, v = .slice a xs.length c ∧ xs.length ≤ 9223372036854775807 ∧ ∀ k x, xs[k]? = some x → ∃ b o f, a = some ⟨b, o, none⟩ ∧ S b ∧ (∀ j, j < sz → w.cell? ⟨b, o + k * sz + j, none⟩ = some (f j)) ∧ E w S f x

/-- where the blocks of S are as they were, elements read as they did -/
def Elem.Kept {α : Type} (E : Elem α) : Prop := ∀ w w' S f x, (∀ b, S b → b < w.heap.size → w'.heap[b]? = w.heap[b]?) → E w S f x → E w' S f x
def Elem.Mono {α : Type} (E : Elem α) : Prop := ∀ w (S S' : Nat → Prop) f x, (∀ b, S b → S' b) → E w S f x → E w S' f x

theorem lt_of_cell {w : World} {b o : Nat} {v : Value} (h : w.cell? ⟨b, o, none⟩ = some v) : b < w.heap.size := World.block_lt_of_cell? w ⟨b, o, none⟩ h
theorem cell_kept {w w' : World} {b o : Nat} {v : Value} (hb : b < w.heap.size → w'.heap[b]? = w.heap[b]?) (h : w.cell? ⟨b, o, none⟩ = some v) : w'.cell? ⟨b, o, none⟩ = some v :=
  (World.cell?_of_block (a := ⟨b, o, none⟩) (hb (lt_of_cell h))).trans h

theorem Row.kept {α : Type} {sz : Nat} {E : Elem α} (hE : E.Kept) {w w' : World} {S : Nat → Prop} {v : Value} {xs : List α} (hk : ∀ b, S b → b < w.heap.size → w'.heap[b]? = w.heap[b]?) (h : Row sz E w S v xs) : Row sz E w' S v xs := by
  obtain ⟨a, c, hv, hl, h⟩ := h
  refine ⟨a, c, hv, hl, fun k x hx => ?_⟩
  obtain ⟨b, o, f, ha, hS, hc, he⟩ := h k x hx
  exact ⟨b, o, f, ha, hS, fun j hj => cell_kept (hk b hS) (hc j hj), hE w w' S f x hk he⟩
theorem Row.mono {α : Type} {sz : Nat} {E : Elem α} (hE : E.Mono) {w : World} {S S' : Nat → Prop} {v : Value} {xs : List α} (hk : ∀ b, S b → S' b) (h : Row sz E w S v xs) : Row sz E w S' v xs := by
  obtain ⟨a, c, hv, hl, h⟩ := h
  refine ⟨a, c, hv, hl, fun k x hx => ?_⟩
  obtain ⟨b, o, f, ha, hS, hc, he⟩ := h k x hx
  exact ⟨b, o, f, ha, hk b hS, hc, hE w S S' f x hk he⟩
theorem Row.below {α : Type} {sz : Nat} {E : Elem α} (hE : E.Kept) {w w' : World} {S : Nat → Prop} {v : Value} {xs : List α} (h : Row sz E w S v xs) (hb : Below w.heap.size w w') : Row sz E w' S v xs :=
  h.kept hE fun b _ hlt => hb.block b hlt

/-! ### the elements -/
def Sz (s : ByteArray) : Prop := s.size ≤ 9223372036854775807
def EStr : Elem ByteArray := fun _ _ f s => f 0 = .string s ∧ Sz s
def EFld : Elem Fld := fun _ _ f x => f 0 = .string x.name ∧ f 1 = .string x.value ∧ Sz x.name ∧ Sz x.value
abbrev RStr := Row 1 EStr
abbrev RFld := Row 2 EFld
def ENd : Elem Nd := fun w S f x => f 0 = .int .i64 x.id ∧ RStr w S (f 1) x.labels ∧ RFld w S (f 2) x.fields
def EEd : Elem Ed := fun w S f x => f 0 = .int .i64 x.id ∧ f 1 = .string x.type ∧ f 2 = .int .i64 x.src ∧ f 3 = .int .i64 x.dst ∧ RFld w S (f 4) x.fields ∧ Sz x.type
abbrev RNd := Row 3 ENd
abbrev REd := Row 5 EEd
def RGr (w : World) (S : Nat → Prop) (v : Value) (g : Gr) : Prop := ∃ v1 v2, v = .agg #[v1, v2] ∧ RNd w S v1 g.nodes ∧ REd w S v2 g.edges

theorem EStr.kept : EStr.Kept := fun _ _ _ _ _ _ h => h
theorem EFld.kept : EFld.Kept := fun _ _ _ _ _ _ h => h
theorem ENd.kept : ENd.Kept := fun _ _ _ _ _ hk h => ⟨h.1, h.2.1.kept EStr.kept hk, h.2.2.kept EFld.kept hk⟩
theorem EEd.kept : EEd.Kept := fun _ _ _ _ _ hk h => ⟨h.1, h.2.1, h.2.2.1, h.2.2.2.1, h.2.2.2.2.1.kept EFld.kept hk, h.2.2.2.2.2⟩
theorem EStr.mono : EStr.Mono := fun _ _ _ _ _ _ h => h
theorem EFld.mono : EFld.Mono := fun _ _ _ _ _ _ h => h
theorem ENd.mono : ENd.Mono := fun _ _ _ _ _ hk h => ⟨h.1, h.2.1.mono EStr.mono hk, h.2.2.mono EFld.mono hk⟩
theorem EEd.mono : EEd.Mono := fun _ _ _ _ _ hk h => ⟨h.1, h.2.1, h.2.2.1, h.2.2.2.1, h.2.2.2.2.1.mono EFld.mono hk, h.2.2.2.2.2⟩
theorem RGr.kept {w w' : World} {S : Nat → Prop} {v : Value} {g : Gr} (hk : ∀ b, S b → b < w.heap.size → w'.heap[b]? = w.heap[b]?) (h : RGr w S v g) : RGr w' S v g := by
  obtain ⟨v1, v2, hv, h1, h2⟩ := h
  exact ⟨v1, v2, hv, h1.kept ENd.kept hk, h2.kept EEd.kept hk⟩
theorem RGr.mono {w : World} {S S' : Nat → Prop} {v : Value} {g : Gr} (hk : ∀ b, S b → S' b) (h : RGr w S v g) : RGr w S' v g := by
  obtain ⟨v1, v2, hv, h1, h2⟩ := h
  exact ⟨v1, v2, hv, h1.mono ENd.mono hk, h2.mono EEd.mono hk⟩
theorem RGr.below {w w' : World} {S : Nat → Prop} {v : Value} {g : Gr} (h : RGr w S v g) (hb : Below w.heap.size w w') : RGr w' S v g := h.kept fun b _ hlt => hb.block b hlt

theorem Row.shape {α : Type} {sz : Nat} {E : Elem α} {w : World} {S : Nat → Prop} {v : Value} {xs : List α} (h : Row sz E w S v xs) : ∃ a c, v = .slice a xs.length c := by
  obtain ⟨a, c, hv, _⟩ := h
  exact ⟨a, c, hv⟩
theorem Row.len {α : Type} {sz : Nat} {E : Elem α} {w : World} {S : Nat → Prop} {v : Value} {xs : List α} (h : Row sz E w S v xs) : xs.length ≤ 9223372036854775807 := by
  obtain ⟨a, c, _, hl, _⟩ := h
  exact hl
theorem Row.get {α : Type} {sz : Nat} {E : Elem α} {w : World} {S : Nat → Prop} {a : Option Addr} {n c : Nat} {xs : List α} (h : Row sz E w S (.slice a n c) xs) {k : Nat} (hk : k < xs.length) :
    ∃ b o f, a = some ⟨b, o, none⟩ ∧ S b ∧ (∀ j, j < sz → w.cell? ⟨b, o + k * sz + j, none⟩ = some (f j)) ∧ E w S f xs[k] := by
  obtain ⟨a', c', hv, _, h⟩ := h
  cases hv
  exact h k xs[k] (List.getElem?_eq_getElem hk)
theorem RStr.at {w : World} {S : Nat → Prop} {a : Option Addr} {n c : Nat} {xs : List ByteArray} (h : RStr w S (.slice a n c) xs) {k : Nat} (hk : k < xs.length) :
    ∃ b o, a = some ⟨b, o, none⟩ ∧ S b ∧ w.cell? ⟨b, o + k, none⟩ = some (.string xs[k]) ∧ xs[k].size ≤ 9223372036854775807 := by
  obtain ⟨b, o, f, ha, hS, hc, he, hz⟩ := h.get hk
  have := hc 0 (by decide)
  rw [Nat.mul_one, Nat.add_zero, he] at this
  exact ⟨b, o, ha, hS, this, hz⟩
theorem RFld.at {w : World} {S : Nat → Prop} {a : Option Addr} {n c : Nat} {xs : List Fld} (h : RFld w S (.slice a n c) xs) {k : Nat} (hk : k < xs.length) :
    ∃ b o, a = some ⟨b, o, none⟩ ∧ S b ∧ w.cell? ⟨b, o + k * 2, none⟩ = some (.string xs[k].name) ∧ w.cell? ⟨b, o + k * 2 + 1, none⟩ = some (.string xs[k].value) ∧
      xs[k].name.size ≤ 9223372036854775807 ∧ xs[k].value.size ≤ 9223372036854775807 := by
  obtain ⟨b, o, f, ha, hS, hc, h0, h1, z0, z1⟩ := h.get hk
  have c0 := hc 0 (by decide)
  have c1 := hc 1 (by decide)
  rw [Nat.add_zero, h0] at c0
  rw [h1] at c1
  exact ⟨b, o, ha, hS, c0, c1, z0, z1⟩
theorem RNd.at {w : World} {S : Nat → Prop} {a : Option Addr} {n c : Nat} {xs : List Nd} (h : RNd w S (.slice a n c) xs) {k : Nat} (hk : k < xs.length) :
    ∃ b o a1 c1 a2 c2, a = some ⟨b, o, none⟩ ∧ S b ∧ w.cell? ⟨b, o + k * 3, none⟩ = some (.int .i64 xs[k].id) ∧ w.cell? ⟨b, o + k * 3 + 1, none⟩ = some (.slice a1 xs[k].labels.length c1) ∧ w.cell? ⟨b, o + k * 3 + 2, none⟩ = some (.slice a2 xs[k].fields.length c2) ∧
      RStr w S (.slice a1 xs[k].labels.length c1) xs[k].labels ∧ RFld w S (.slice a2 xs[k].fields.length c2) xs[k].fields := by
  obtain ⟨b, o, f, ha, hS, hc, h0, h1, h2⟩ := h.get hk
  have e0 := hc 0 (by decide)
  have e1 := hc 1 (by decide)
  have e2 := hc 2 (by decide)
  obtain ⟨a1, c1, g1⟩ := h1.shape
  obtain ⟨a2, c2, g2⟩ := h2.shape
  rw [Nat.add_zero, h0] at e0
  rw [g1] at e1 h1
  rw [g2] at e2 h2
  exact ⟨b, o, a1, c1, a2, c2, ha, hS, e0, e1, e2, h1, h2⟩
theorem REd.at {w : World} {S : Nat → Prop} {a : Option Addr} {n c : Nat} {xs : List Ed} (h : REd w S (.slice a n c) xs) {k : Nat} (hk : k < xs.length) :
    ∃ b o a1 c1, a = some ⟨b, o, none⟩ ∧ S b ∧ w.cell? ⟨b, o + k * 5, none⟩ = some (.int .i64 xs[k].id) ∧ w.cell? ⟨b, o + k * 5 + 1, none⟩ = some (.string xs[k].type) ∧ w.cell? ⟨b, o + k * 5 + 2, none⟩ = some (.int .i64 xs[k].src) ∧
      w.cell? ⟨b, o + k * 5 + 3, none⟩ = some (.int .i64 xs[k].dst) ∧ w.cell? ⟨b, o + k * 5 + 4, none⟩ = some (.slice a1 xs[k].fields.length c1) ∧ RFld w S (.slice a1 xs[k].fields.length c1) xs[k].fields ∧ xs[k].type.size ≤ 9223372036854775807 := by
  obtain ⟨b, o, f, ha, hS, hc, h0, h1, h2, h3, h4, hz⟩ := h.get hk
  have e0 := hc 0 (by decide)
  have e1 := hc 1 (by decide)
  have e2 := hc 2 (by decide)
  have e3 := hc 3 (by decide)
  have e4 := hc 4 (by decide)
  obtain ⟨a1, c1, g1⟩ := h4.shape
  rw [Nat.add_zero, h0] at e0
  rw [h1] at e1
  rw [h2] at e2
  rw [h3] at e3
  rw [g1] at e4 h4
  exact ⟨b, o, a1, c1, ha, hS, e0, e1, e2, e3, e4, h4, hz⟩

/-! ### how much there is -/
def tot (cs : List Nat) : Nat := cs.length + cs.sum
def bStrs (l : List ByteArray) : Nat := tot (l.map ByteArray.size)
def bFld (f : Fld) : Nat := f.name.size + f.value.size
def bFlds (l : List Fld) : Nat := tot (l.map bFld)
def bNd (n : Nd) : Nat := bStrs n.labels + bFlds n.fields
def bNds (l : List Nd) : Nat := tot (l.map bNd)
def bEd (e : Ed) : Nat := e.type.size + bFlds e.fields
def bEds (l : List Ed) : Nat := tot (l.map bEd)
def bGr (g : Gr) : Nat := bNds g.nodes + bEds g.edges
/-- what is left -/
def lef (left : Int) (n : Nat) : Int := if (n : Int) ≤ left then left - n else -1
end Go.Proofs.YtllhimeffkefiaaGreatDoor
/- The walks of the laws' size counts. No condition beyond what each theorem states. -/
set_option linter.unusedVariables false
namespace Go.Proofs.YtllhimeffkefiaaGreatDoor
open Go.RowKit

def Int1 (n : Int) (w : World) (e : Ending) (w' : World) : Prop := e = .returned (.int .i64 n) ∧ Below w.heap.size w w'

/-- what is left behind k of the costs -/
def rest (left : Int) (cs : List Nat) (k : Nat) : Int := left - cs.length - (cs.take k).sum
theorem rest_zero (left : Int) (cs : List Nat) : rest left cs 0 = left - cs.length := by simp [rest]
theorem rest_succ (left : Int) (cs : List Nat) (k : Nat) (h : k < cs.length) : rest left cs (k + 1) = rest left cs k - cs[k] := by
  unfold rest
  rw [List.take_add_one, List.getElem?_eq_getElem h]
  simp only [Option.toList, List.sum_append, List.sum_cons, List.sum_nil]
  omega
theorem sum_take_le : ∀ (cs : List Nat) (k : Nat), (cs.take k).sum ≤ cs.sum
  | [], k => by simp
  | c :: cs, 0 => by simp
  | c :: cs, k + 1 => by have := sum_take_le cs k; simp; omega
theorem rest_le (left : Int) (cs : List Nat) (k : Nat) : rest left cs k ≤ left := by unfold rest; omega
theorem lef_short {left : Int} {cs : List Nat} (h : left - cs.length < 0) : lef left (tot cs) = -1 := by unfold lef tot; rw [if_neg (by omega)]
theorem lef_stop {left : Int} {cs : List Nat} (k : Nat) (h : rest left cs k < 0) : lef left (tot cs) = -1 := by
  have := sum_take_le cs k
  unfold rest at h
  unfold lef tot; rw [if_neg (by omega)]
theorem lef_done {left : Int} {cs : List Nat} {n : Nat} (hn : n = cs.length) (h : 0 ≤ rest left cs n) : lef left (tot cs) = rest left cs n := by
  subst hn
  unfold rest at *
  rw [List.take_length] at *
  unfold lef tot; rw [if_pos (by omega)]; omega
theorem lef_lt {left : Int} {n : Nat} (h : left < n) : lef left n = -1 := by unfold lef; rw [if_neg (by omega)]
theorem lef_ge {left : Int} {n : Nat} (h : (n : Int) ≤ left) : lef left n = left - n := by unfold lef; rw [if_pos h]
theorem lef_neg {left : Int} {m : Nat} (n : Nat) (h0 : 0 ≤ left) (h : lef left m < 0) : lef left (m + n) = -1 := by unfold lef at *; split at h <;> split <;> omega
theorem lef_m1 {left : Int} {m : Nat} (h0 : 0 ≤ left) (h : lef left m < 0) : lef left m = -1 := by unfold lef at *; split at h <;> omega
theorem lef_lef {left : Int} {m : Nat} (n : Nat) (h : 0 ≤ lef left m) : lef (lef left m) n = lef left (m + n) := by
  unfold lef at h
  split at h
  · rename_i hm; rw [lef_ge hm]; unfold lef; split <;> split <;> omega
  · omega
theorem lef_up {left : Int} (m : Nat) (h : left ≤ 1048576) : lef left m ≤ 1048576 := by unfold lef; split <;> omega
theorem lef_two {left : Int} {m n : Nat} (h : (m : Int) ≤ left) : lef (left - m) n = lef left (m + n) := by unfold lef; split <;> split <;> omega

set_option maxHeartbeats 1000000 in
set_option maxRecDepth 100000 in
theorem szStringS_any (w : World) (S : Nat → Prop) (v : Value) (ss : List ByteArray) (left : Int) (h : RStr w S v ss) (h0 : 0 ≤ left) (h1 : left ≤ 1048576) :
    Calls Tryz.prog 91 #[v, .int .i64 left] w (Int1 (lef left (bStrs ss)) w) := by
  obtain ⟨a, c, rfl⟩ := h.shape
  have hl := h.len
  unfold bStrs
  obtain ⟨cs, hcs⟩ : ∃ cs, cs = ss.map ByteArray.size := ⟨_, rfl⟩
  have hn : ss.length = cs.length := by rw [hcs, List.length_map]
  have hg : ∀ k (h : k < ss.length) (h' : k < cs.length), cs[k] = ByteArray.size ss[k] := fun k h h' => by simp [hcs]
  rw [← hcs]
  have HN : Hid (ss.length = cs.length) := Lib.hid hn
  clear hcs hn
  have HR := Lib.hid (rest_zero left cs)
  by_cases hs : left - (ss.length : Int) < 0
  · go_enter Tryz.func91, Tryz.ntmps91
    go_wp2
    go_ret
    exact ⟨by rw [lef_short (by rw [← HN.out]; exact hs)]; rfl, Below.refl _ _⟩
  · go_enter Tryz.func91, Tryz.ntmps91
    go_wp2
    go_loopw [1, 5] (fun q i wr => ∃ k : Nat, k ≤ ss.length ∧ i = .int .i64 k ∧ q = .int .i64 (rest left cs k) ∧ 0 ≤ rest left cs k ∧ Below w.heap.size w wr) (fun _ i _ => ss.length - (intOf i).toNat)
    case atStart => exact ⟨0, by omega, rfl, by rw [HR.out, ← HN.out], by rw [HR.out, ← HN.out]; omega, Below.refl _ _⟩
    case round =>
      obtain ⟨k, hk, rfl, rfl, hpos, hnx⟩ := hrel
      by_cases hlt : k < ss.length
      · have HS := Lib.hid (rest_succ left cs k (by rw [← HN.out]; exact hlt))
        have hcost := hg k hlt (by rw [← HN.out]; exact hlt)
        obtain ⟨q, hq⟩ : ∃ q, q = cs[k]'(by rw [← HN.out]; exact hlt) := ⟨_, rfl⟩
        rw [← hq] at HS hcost
        clear hg hq
        have hle := rest_le left cs k
        obtain ⟨b, o, rfl, -, d, hz⟩ := RStr.at (h.below EStr.kept hnx) hlt
        have hcost : q = ss[k].size := hcost
        subst hcost
        by_cases ht : rest left cs k - ss[k].size < 0
        · go_wp2
          go_ret
          exact ⟨by rw [lef_stop (k + 1) (by rw [HS.out]; exact ht)]; rfl, hnx⟩
        · go_wp2
          go_roundw
          case rel => exact ⟨k + 1, by omega, by go_num, by rw [HS.out], by rw [HS.out]; omega, hnx⟩
          case measure => simp [intOf]; omega
      · obtain rfl : k = ss.length := by omega
        go_wp2
        go_ret
        exact ⟨by rw [lef_done HN.out hpos]; rfl, hnx⟩

set_option maxHeartbeats 1000000 in
set_option maxRecDepth 100000 in
theorem szField_any (w : World) (x : Fld) (left : Int) (z1 : x.name.size ≤ 9223372036854775807) (z2 : x.value.size ≤ 9223372036854775807) (h0 : 0 ≤ left) (h1 : left ≤ 1048576) :
    Calls Tryz.prog 112 #[.agg #[.string x.name, .string x.value], .int .i64 left] w (Int1 (lef left (bFld x)) w) := by
  by_cases t1 : left - (x.name.size : Int) < 0
  · have HC : Hid (lef left (bFld x) = -1) := Lib.hid (lef_lt (by unfold bFld; omega))
    go_enter Tryz.func112, Tryz.ntmps112
    go_wp2
    go_ret
    exact ⟨by rw [HC.out]; rfl, (Below.refl _ _).alloc (Nat.le_refl _) _⟩
  · by_cases t2 : left - (x.name.size : Int) - x.value.size < 0
    · have HC : Hid (lef left (bFld x) = -1) := Lib.hid (lef_lt (by unfold bFld; omega))
      go_enter Tryz.func112, Tryz.ntmps112
      go_wp2
      go_ret
      exact ⟨by rw [HC.out]; rfl, (Below.refl _ _).alloc (Nat.le_refl _) _⟩
    · have HC : Hid (lef left (bFld x) = left - x.name.size - x.value.size) := Lib.hid (by unfold bFld; rw [lef_ge (by omega)]; push_cast; omega)
      go_enter Tryz.func112, Tryz.ntmps112
      go_wp2
      go_ret
      exact ⟨by rw [HC.out]; rfl, (Below.refl _ _).alloc (Nat.le_refl _) _⟩

set_option maxHeartbeats 1000000 in
set_option maxRecDepth 100000 in
theorem szFieldS_any (w : World) (S : Nat → Prop) (v : Value) (ss : List Fld) (left : Int) (h : RFld w S v ss) (h0 : 0 ≤ left) (h1 : left ≤ 1048576) :
    Calls Tryz.prog 92 #[v, .int .i64 left] w (Int1 (lef left (bFlds ss)) w) := by
  obtain ⟨a, c, rfl⟩ := h.shape
  have hl := h.len
  unfold bFlds
  obtain ⟨cs, hcs⟩ : ∃ cs, cs = ss.map bFld := ⟨_, rfl⟩
  have hn : ss.length = cs.length := by rw [hcs, List.length_map]
  have hg : ∀ k (h : k < ss.length) (h' : k < cs.length), cs[k] = bFld ss[k] := fun k h h' => by simp [hcs]
  rw [← hcs]
  have HN : Hid (ss.length = cs.length) := Lib.hid hn
  clear hcs hn
  have HR := Lib.hid (rest_zero left cs)
  by_cases hs : left - (ss.length : Int) < 0
  · go_enter Tryz.func92, Tryz.ntmps92
    go_wp2
    go_ret
    exact ⟨by rw [lef_short (by rw [← HN.out]; exact hs)]; rfl, Below.refl _ _⟩
  · go_enter Tryz.func92, Tryz.ntmps92
    go_wp2
    go_loopw [1, 5] (fun q i wr => ∃ k : Nat, k ≤ ss.length ∧ i = .int .i64 k ∧ q = .int .i64 (rest left cs k) ∧ 0 ≤ rest left cs k ∧ Below w.heap.size w wr) (fun _ i _ => ss.length - (intOf i).toNat)
    case atStart => exact ⟨0, by omega, rfl, by rw [HR.out, ← HN.out], by rw [HR.out, ← HN.out]; omega, Below.refl _ _⟩
    case round =>
      obtain ⟨k, hk, rfl, rfl, hpos, hnx⟩ := hrel
      by_cases hlt : k < ss.length
      · have HS := Lib.hid (rest_succ left cs k (by rw [← HN.out]; exact hlt))
        have hcost := hg k hlt (by rw [← HN.out]; exact hlt)
        obtain ⟨q, hq⟩ : ∃ q, q = cs[k]'(by rw [← HN.out]; exact hlt) := ⟨_, rfl⟩
        rw [← hq] at HS hcost
        clear hg hq
        have hle := rest_le left cs k
        subst hcost
        obtain ⟨b, o, rfl, -, d0, d1, z0, z1⟩ := RFld.at (h.below EFld.kept hnx) hlt
        by_cases ht : rest left cs k < bFld ss[k]
        · have HC : Hid (lef (rest left cs k) (bFld ss[k]) = -1) := Lib.hid (lef_lt ht)
          go_wp2_with (go_at_call 112; refine (szField_any _ ss[k] _ z0 z1 hpos (by omega)).mono ?_; rintro e w1 ⟨rfl, hb1⟩; rw [HC.out])
          go_wp2_with fail
          go_ret
          exact ⟨by rw [lef_stop (k + 1) (by rw [HS.out]; omega)]; rfl, hnx.trans (hb1.mono hnx.size)⟩
        · have HC : Hid (lef (rest left cs k) (bFld ss[k]) = rest left cs k - bFld ss[k]) := Lib.hid (lef_ge (by omega))
          go_wp2_with (go_at_call 112; refine (szField_any _ ss[k] _ z0 z1 hpos (by omega)).mono ?_; rintro e w1 ⟨rfl, hb1⟩; rw [HC.out])
          go_wp2_with fail
          go_roundw
          case rel => exact ⟨k + 1, by omega, by go_num, by rw [HS.out], by rw [HS.out]; omega, hnx.trans (hb1.mono hnx.size)⟩
          case measure => simp [intOf]; omega
      · obtain rfl : k = ss.length := by omega
        go_wp2
        go_ret
        exact ⟨by rw [lef_done HN.out hpos]; rfl, hnx⟩

set_option maxHeartbeats 1000000 in
set_option maxRecDepth 100000 in
theorem szNode_any (w : World) (S : Nat → Prop) (i : Int) (v1 v2 : Value) (ss : List ByteArray) (fs : List Fld) (left : Int) (h1 : RStr w S v1 ss) (h2 : RFld w S v2 fs) (h0 : 0 ≤ left) (hl : left ≤ 1048576) :
    Calls Tryz.prog 67 #[.agg #[.int .i64 i, v1, v2], .int .i64 left] w (Int1 (lef left (bStrs ss + bFlds fs)) w) := by
  obtain ⟨a1, c1, rfl⟩ := h1.shape
  obtain ⟨a2, c2, rfl⟩ := h2.shape
  go_enter Tryz.func67, Tryz.ntmps67
  go_wp2_with (first
    | (go_at_call 91; refine (szStringS_any _ S _ ss left (h1.below EStr.kept ((Below.refl _ _).alloc (Nat.le_refl _) _)) h0 hl).mono ?_; rintro e w1 ⟨rfl, hb1⟩; have b1 := hb1.cell (p := ⟨w.heap.size, 2, none⟩) (by simp))
    | (go_at_call 92; refine (szFieldS_any _ S _ fs _ ((h2.below EFld.kept ((Below.refl _ _).alloc (Nat.le_refl _) _)).below EFld.kept hb1) (by assumption) (lef_up _ hl)).mono ?_; rintro e w2 ⟨rfl, hb2⟩))
  all_goals go_ret
  all_goals first
    | exact ⟨by rw [lef_neg _ h0 (by assumption)]; rfl, ((Below.refl _ _).alloc (Nat.le_refl _) _).trans (hb1.mono (by simp))⟩
    | exact ⟨by rw [← lef_lef _ (by assumption), lef_m1 (by assumption) (by assumption)]; rfl, (((Below.refl _ _).alloc (Nat.le_refl _) _).trans (hb1.mono (by simp))).trans (hb2.mono (by have := hb1.size; simp at this; omega))⟩
    | exact ⟨by rw [← lef_lef _ (by assumption)]; rfl, (((Below.refl _ _).alloc (Nat.le_refl _) _).trans (hb1.mono (by simp))).trans (hb2.mono (by have := hb1.size; simp at this; omega))⟩
set_option maxHeartbeats 1000000 in
set_option maxRecDepth 100000 in
theorem szNodeS_any (w : World) (S : Nat → Prop) (v : Value) (ss : List Nd) (left : Int) (h : RNd w S v ss) (h0 : 0 ≤ left) (h1 : left ≤ 1048576) :
    Calls Tryz.prog 31 #[v, .int .i64 left] w (Int1 (lef left (bNds ss)) w) := by
  obtain ⟨a, c, rfl⟩ := h.shape
  have hl := h.len
  unfold bNds
  obtain ⟨cs, hcs⟩ : ∃ cs, cs = ss.map bNd := ⟨_, rfl⟩
  have hn : ss.length = cs.length := by rw [hcs, List.length_map]
  have hg : ∀ k (h : k < ss.length) (h' : k < cs.length), cs[k] = bNd ss[k] := fun k h h' => by simp [hcs]
  rw [← hcs]
  have HN : Hid (ss.length = cs.length) := Lib.hid hn
  clear hcs hn
  have HR := Lib.hid (rest_zero left cs)
  by_cases hs : left - (ss.length : Int) < 0
  · go_enter Tryz.func31, Tryz.ntmps31
    go_wp2
    go_ret
    exact ⟨by rw [lef_short (by rw [← HN.out]; exact hs)]; rfl, Below.refl _ _⟩
  · go_enter Tryz.func31, Tryz.ntmps31
    go_wp2
    go_loopw [1, 5] (fun q i wr => ∃ k : Nat, k ≤ ss.length ∧ i = .int .i64 k ∧ q = .int .i64 (rest left cs k) ∧ 0 ≤ rest left cs k ∧ Below w.heap.size w wr) (fun _ i _ => ss.length - (intOf i).toNat)
    case atStart => exact ⟨0, by omega, rfl, by rw [HR.out, ← HN.out], by rw [HR.out, ← HN.out]; omega, Below.refl _ _⟩
    case round =>
      obtain ⟨k, hk, rfl, rfl, hpos, hnx⟩ := hrel
      by_cases hlt : k < ss.length
      · have HS := Lib.hid (rest_succ left cs k (by rw [← HN.out]; exact hlt))
        have hcost := hg k hlt (by rw [← HN.out]; exact hlt)
        obtain ⟨q, hq⟩ : ∃ q, q = cs[k]'(by rw [← HN.out]; exact hlt) := ⟨_, rfl⟩
        rw [← hq] at HS hcost
        clear hg hq
        have hle := rest_le left cs k
        subst hcost
        obtain ⟨b, o, a1, c1, a2, c2, rfl, -, d0, d1, d2, r1, r2⟩ := RNd.at (h.below ENd.kept hnx) hlt
        by_cases ht : rest left cs k < bNd ss[k]
        · have HC : Hid (lef (rest left cs k) (bNd ss[k]) = -1) := Lib.hid (lef_lt ht)
          go_wp2_with (go_at_call 67; refine (szNode_any _ S _ _ _ _ _ _ r1 r2 hpos (by omega)).mono ?_; rintro e w1 ⟨rfl, hb1⟩; rw [show lef (rest left cs k) (bStrs ss[k].labels + bFlds ss[k].fields) = _ from HC.out])
          go_wp2_with fail
          go_ret
          exact ⟨by rw [lef_stop (k + 1) (by rw [HS.out]; omega)]; rfl, hnx.trans (hb1.mono hnx.size)⟩
        · have HC : Hid (lef (rest left cs k) (bNd ss[k]) = rest left cs k - bNd ss[k]) := Lib.hid (lef_ge (by omega))
          go_wp2_with (go_at_call 67; refine (szNode_any _ S _ _ _ _ _ _ r1 r2 hpos (by omega)).mono ?_; rintro e w1 ⟨rfl, hb1⟩; rw [show lef (rest left cs k) (bStrs ss[k].labels + bFlds ss[k].fields) = _ from HC.out])
          go_wp2_with fail
          go_roundw
          case rel => exact ⟨k + 1, by omega, by go_num, by rw [HS.out], by rw [HS.out]; omega, hnx.trans (hb1.mono hnx.size)⟩
          case measure => simp [intOf]; omega
      · obtain rfl : k = ss.length := by omega
        go_wp2
        go_ret
        exact ⟨by rw [lef_done HN.out hpos]; rfl, hnx⟩


set_option maxHeartbeats 1000000 in
set_option maxRecDepth 100000 in
theorem szEdge_any (w : World) (S : Nat → Prop) (i x y : Int) (t : ByteArray) (v2 : Value) (fs : List Fld) (left : Int) (hz : t.size ≤ 9223372036854775807) (h2 : RFld w S v2 fs) (h0 : 0 ≤ left) (hl : left ≤ 1048576) :
    Calls Tryz.prog 68 #[.agg #[.int .i64 i, .string t, .int .i64 x, .int .i64 y, v2], .int .i64 left] w (Int1 (lef left (t.size + bFlds fs)) w) := by
  obtain ⟨a2, c2, rfl⟩ := h2.shape
  by_cases t1 : left - (t.size : Int) < 0
  · have HC : Hid (lef left (t.size + bFlds fs) = -1) := Lib.hid (lef_lt (by omega))
    go_enter Tryz.func68, Tryz.ntmps68
    go_wp2
    go_ret
    exact ⟨by rw [HC.out]; rfl, (Below.refl _ _).alloc (Nat.le_refl _) _⟩
  · have HC : Hid (lef (left - t.size) (bFlds fs) = lef left (t.size + bFlds fs)) := Lib.hid (lef_two (by omega))
    have hle : left - (t.size : Int) ≤ 1048576 := by omega
    have hpos : 0 ≤ left - (t.size : Int) := by omega
    go_enter Tryz.func68, Tryz.ntmps68
    go_wp2_with (go_at_call 92; refine (szFieldS_any _ S _ fs _ (h2.below EFld.kept ((Below.refl _ _).alloc (Nat.le_refl _) _)) hpos hle).mono ?_; rintro e w2 ⟨rfl, hb2⟩)
    all_goals go_ret
    all_goals first
      | exact ⟨by rw [← HC.out, lef_m1 hpos (by assumption)]; rfl, ((Below.refl _ _).alloc (Nat.le_refl _) _).trans (hb2.mono (by simp))⟩
      | exact ⟨by rw [← HC.out]; rfl, ((Below.refl _ _).alloc (Nat.le_refl _) _).trans (hb2.mono (by simp))⟩

set_option maxHeartbeats 1000000 in
set_option maxRecDepth 100000 in
theorem szEdgeS_any (w : World) (S : Nat → Prop) (v : Value) (ss : List Ed) (left : Int) (h : REd w S v ss) (h0 : 0 ≤ left) (h1 : left ≤ 1048576) :
    Calls Tryz.prog 32 #[v, .int .i64 left] w (Int1 (lef left (bEds ss)) w) := by
  obtain ⟨a, c, rfl⟩ := h.shape
  have hl := h.len
  unfold bEds
  obtain ⟨cs, hcs⟩ : ∃ cs, cs = ss.map bEd := ⟨_, rfl⟩
  have hn : ss.length = cs.length := by rw [hcs, List.length_map]
  have hg : ∀ k (h : k < ss.length) (h' : k < cs.length), cs[k] = bEd ss[k] := fun k h h' => by simp [hcs]
  rw [← hcs]
  have HN : Hid (ss.length = cs.length) := Lib.hid hn
  clear hcs hn
  have HR := Lib.hid (rest_zero left cs)
  by_cases hs : left - (ss.length : Int) < 0
  · go_enter Tryz.func32, Tryz.ntmps32
    go_wp2
    go_ret
    exact ⟨by rw [lef_short (by rw [← HN.out]; exact hs)]; rfl, Below.refl _ _⟩
  · go_enter Tryz.func32, Tryz.ntmps32
    go_wp2
    go_loopw [1, 5] (fun q i wr => ∃ k : Nat, k ≤ ss.length ∧ i = .int .i64 k ∧ q = .int .i64 (rest left cs k) ∧ 0 ≤ rest left cs k ∧ Below w.heap.size w wr) (fun _ i _ => ss.length - (intOf i).toNat)
    case atStart => exact ⟨0, by omega, rfl, by rw [HR.out, ← HN.out], by rw [HR.out, ← HN.out]; omega, Below.refl _ _⟩
    case round =>
      obtain ⟨k, hk, rfl, rfl, hpos, hnx⟩ := hrel
      by_cases hlt : k < ss.length
      · have HS := Lib.hid (rest_succ left cs k (by rw [← HN.out]; exact hlt))
        have hcost := hg k hlt (by rw [← HN.out]; exact hlt)
        obtain ⟨q, hq⟩ : ∃ q, q = cs[k]'(by rw [← HN.out]; exact hlt) := ⟨_, rfl⟩
        rw [← hq] at HS hcost
        clear hg hq
        have hle := rest_le left cs k
        subst hcost
        obtain ⟨b, o, a1, c1, rfl, -, d0, d1, d2, d3, d4, r1, hz⟩ := REd.at (h.below EEd.kept hnx) hlt
        by_cases ht : rest left cs k < bEd ss[k]
        · have HC : Hid (lef (rest left cs k) (bEd ss[k]) = -1) := Lib.hid (lef_lt ht)
          go_wp2_with (go_at_call 68; refine (szEdge_any _ S _ _ _ _ _ _ _ hz r1 hpos (by omega)).mono ?_; rintro e w1 ⟨rfl, hb1⟩; rw [show lef (rest left cs k) (ss[k].type.size + bFlds ss[k].fields) = _ from HC.out])
          go_wp2_with fail
          go_ret
          exact ⟨by rw [lef_stop (k + 1) (by rw [HS.out]; omega)]; rfl, hnx.trans (hb1.mono hnx.size)⟩
        · have HC : Hid (lef (rest left cs k) (bEd ss[k]) = rest left cs k - bEd ss[k]) := Lib.hid (lef_ge (by omega))
          go_wp2_with (go_at_call 68; refine (szEdge_any _ S _ _ _ _ _ _ _ hz r1 hpos (by omega)).mono ?_; rintro e w1 ⟨rfl, hb1⟩; rw [show lef (rest left cs k) (ss[k].type.size + bFlds ss[k].fields) = _ from HC.out])
          go_wp2_with fail
          go_roundw
          case rel => exact ⟨k + 1, by omega, by go_num, by rw [HS.out], by rw [HS.out]; omega, hnx.trans (hb1.mono hnx.size)⟩
          case measure => simp [intOf]; omega
      · obtain rfl : k = ss.length := by omega
        go_wp2
        go_ret
        exact ⟨by rw [lef_done HN.out hpos]; rfl, hnx⟩


set_option maxHeartbeats 1000000 in
set_option maxRecDepth 100000 in
theorem szGraph_any (w : World) (S : Nat → Prop) (v : Value) (g : Gr) (left : Int) (h : RGr w S v g) (h0 : 0 ≤ left) (hl : left ≤ 1048576) :
    Calls Tryz.prog 7 #[v, .int .i64 left] w (Int1 (lef left (bGr g)) w) := by
  obtain ⟨v1, v2, rfl, h1, h2⟩ := h
  obtain ⟨a1, c1, rfl⟩ := h1.shape
  obtain ⟨a2, c2, rfl⟩ := h2.shape
  unfold bGr
  go_enter Tryz.func7, Tryz.ntmps7
  go_wp2_with (first
    | (go_at_call 31; refine (szNodeS_any _ S _ g.nodes left (h1.below ENd.kept ((Below.refl _ _).alloc (Nat.le_refl _) _)) h0 hl).mono ?_; rintro e w1 ⟨rfl, hb1⟩; have b1 := hb1.cell (p := ⟨w.heap.size, 1, none⟩) (by simp))
    | (go_at_call 32; refine (szEdgeS_any _ S _ g.edges _ ((h2.below EEd.kept ((Below.refl _ _).alloc (Nat.le_refl _) _)).below EEd.kept hb1) (by assumption) (lef_up _ hl)).mono ?_; rintro e w2 ⟨rfl, hb2⟩))
  all_goals go_ret
  all_goals first
    | exact ⟨by rw [lef_neg _ h0 (by assumption)]; rfl, ((Below.refl _ _).alloc (Nat.le_refl _) _).trans (hb1.mono (by simp))⟩
    | exact ⟨by rw [← lef_lef _ (by assumption), lef_m1 (by assumption) (by assumption)]; rfl, (((Below.refl _ _).alloc (Nat.le_refl _) _).trans (hb1.mono (by simp))).trans (hb2.mono (by have := hb1.size; simp at this; omega))⟩
    | exact ⟨by rw [← lef_lef _ (by assumption)]; rfl, (((Below.refl _ _).alloc (Nat.le_refl _) _).trans (hb1.mono (by simp))).trans (hb2.mono (by have := hb1.size; simp at this; omega))⟩
end Go.Proofs.YtllhimeffkefiaaGreatDoor
/- The walks of the laws' copies: each makes a copy in memory of its own. Condition: no more than 2^20 elements. -/
set_option linter.unusedVariables false
namespace Go.Proofs.YtllhimeffkefiaaGreatDoor
open Go.RowKit

/-- no cell from block B on is frozen -/
def Free (B : Nat) (w : World) : Prop := ∀ b o, B ≤ b → w.frozen? ⟨b, o, none⟩ = false
/-- a value in memory of the call's own -/
def New (R : World → (Nat → Prop) → Value → Prop) (w : World) (e : Ending) (w' : World) : Prop := ∃ v, e = .returned v ∧ R w' (fun b => w.heap.size ≤ b) v ∧ Below w.heap.size w w' ∧ Free w.heap.size w'

/-- a row that is being filled: block g, n elements of sz cells; xs lies in it so far; what they lead to is newer -/
def Fill {α : Type} (sz : Nat) (E : Elem α) (w : World) (g n : Nat) (xs : List α) : Prop :=
  (∀ i, i < n * sz → ∃ v, w.cell? ⟨g, i, none⟩ = some v) ∧ ∀ k x, xs[k]? = some x → ∃ f, (∀ j, j < sz → w.cell? ⟨g, k * sz + j, none⟩ = some (f j)) ∧ E w (fun b => g < b) f x

theorem Fill.done {α : Type} {sz : Nat} {E : Elem α} (hE : E.Mono) {w : World} {g B : Nat} {xs : List α} {c : Nat} (h : Fill sz E w g xs.length xs) (hB : B ≤ g) (hl : xs.length ≤ 9223372036854775807) : Row sz E w (fun b => B ≤ b) (.slice (some ⟨g, 0, none⟩) xs.length c) xs :=
  ⟨_, _, rfl, hl, fun k x hx => by
    obtain ⟨f, h1, h2⟩ := h.2 k x hx
    exact ⟨g, 0, f, rfl, hB, fun j hj => by rw [Nat.zero_add]; exact h1 j hj, hE _ _ _ _ _ (fun b hb => Nat.le_trans hB (Nat.le_of_lt hb)) h2⟩⟩
theorem Fill.below {α : Type} {sz : Nat} {E : Elem α} (hE : E.Kept) {w w' : World} {g n : Nat} {xs : List α} (h : Fill sz E w g n xs) (hb : Below w.heap.size w w') : Fill sz E w' g n xs :=
  ⟨fun i hi => by
    obtain ⟨v, hv⟩ := h.1 i hi
    exact ⟨v, cell_kept (fun hlt => hb.block g hlt) hv⟩, fun k x hx => by
    obtain ⟨f, h1, h2⟩ := h.2 k x hx
    exact ⟨f, fun j hj => cell_kept (fun hlt => hb.block g hlt) (h1 j hj), hE _ _ _ _ _ (fun b _ hlt => hb.block b hlt) h2⟩⟩
theorem Fill.start {α : Type} (sz : Nat) (E : Elem α) (w : World) (C : Array Value) (T n : Nat) (hC : C.size = n * sz) : Fill sz E (w.alloc (.cells C T)) w.heap.size n [] :=
  ⟨fun i hi => ⟨C[i]'(by omega), by rw [World.cell?_alloc_mark]; exact Array.getElem?_eq_getElem (by omega)⟩, fun k x hx => by simp at hx⟩

theorem make_run {T E : Nat} {z : Value} {sz by' : Nat} (ht : Tryz.prog.underlying T = some (.slice E)) (hin : (Tryz.prog.info? E).map (fun i => (i.zero, i.size, i.bytes)) = some (some z, sz, by')) (hz : by' ≤ 1000) (n : Nat) (hn : n ≤ 1048576) (w : World) :
    ∃ C : Array Value, C.size = n * sz ∧ (Instr.makeSlice T (.int .i64 n) (.int .i64 n)).run Tryz.prog w = .ok (.slice (some ⟨w.heap.size, 0, none⟩) n n) (w.alloc (.cells C E)) := by
  obtain ⟨i, hi, hz0, hz1, hz2⟩ := info_parts hin
  have hm : by' * n ≤ 1000 * 1048576 := Nat.mul_le_mul hz hn
  have hb : (i.bytes : Int) * (n : Int) ≤ 281474976710656 := by
    have h : ((by' * n : Nat) : Int) ≤ 281474976710656 := by omega
    rw [hz2]
    rwa [Int.natCast_mul] at h
  have := run_make (P := Tryz.prog) w T E i _ ht hi hz0 .i64 .i64 n n (by omega) (by omega) hb (by omega)
  rw [hz1] at this
  exact ⟨madeCells z.cells (n * sz), by simp [madeCells], by simpa using this⟩
theorem Free.alloc {B : Nat} {w : World} (h : Free B w) (C : Array Value) (T : Nat) : Free B (w.alloc (.cells C T)) := fun b o hb => by
  by_cases e : b = w.heap.size
  · subst e; rw [World.frozen?_alloc_mark]; simp
  · have h0 := h b o hb
    unfold World.frozen? at *
    rw [show (w.alloc (.cells C T)).heap[b]? = w.heap[b]? from by
      show (w.heap.push _)[b]? = _
      rw [Array.getElem?_push, if_neg e]]
    exact h0
theorem Free.start (w : World) : Free w.heap.size w := fun b o hb => by
  unfold World.frozen?
  rw [Array.getElem?_eq_none hb]
theorem Free.set {B : Nat} {w : World} (h : Free B w) (a : Addr) (v : Value) : Free B (w.setCell a v) := fun b o hb => by rw [World.frozen?_setCell]; exact h b o hb
theorem Free.trans {B : Nat} {w w' : World} (h : Free B w) (hb : Below w.heap.size w w') (h' : Free w.heap.size w') : Free B w' := fun b o hB => by
  by_cases e : b < w.heap.size
  · rw [hb.frozen (p := ⟨b, o, none⟩) e]; exact h b o hB
  · exact h' b o (by omega)

theorem Row.set {α : Type} {sz : Nat} {E : Elem α} (hE : E.Kept) {w : World} {S : Nat → Prop} {v : Value} {xs : List α} (h : Row sz E w S v xs) {a : Addr} (ha : ¬ S a.block) (u : Value) : Row sz E (w.setCell a u) S v xs :=
  h.kept hE fun b hb _ => Below.heap_setCell _ _ _ _ (fun e => ha (e ▸ hb))
/-- cells written one behind the other -/
def sets (w : World) (g : Nat) : Nat → List Value → World
  | _, [] => w
  | o, u :: us => sets (w.setCell ⟨g, o, none⟩ u) g (o + 1) us
theorem sets_other (g : Nat) : ∀ (us : List Value) (o : Nat) (w : World) (b i : Nat), (b ≠ g ∨ i < o ∨ o + us.length ≤ i) → (sets w g o us).cell? ⟨b, i, none⟩ = w.cell? ⟨b, i, none⟩
  | [], o, w, b, i, h => rfl
  | u :: us, o, w, b, i, h => by
    have h' : b ≠ g ∨ i < o ∨ o + (us.length + 1) ≤ i := h
    show (sets _ g (o + 1) us).cell? _ = _
    rw [sets_other g us (o + 1) _ b i (by omega)]
    exact World.cell?_setCell_other _ _ _ _ (by intro e; simp only [Addr.mk.injEq] at e; omega)
theorem sets_at (g : Nat) : ∀ (us : List Value) (o : Nat) (w : World), (∀ j, j < us.length → ∃ v, w.cell? ⟨g, o + j, none⟩ = some v) → ∀ j, j < us.length → (sets w g o us).cell? ⟨g, o + j, none⟩ = some (us.getD j undef)
  | [], o, w, h, j, hj => by simp at hj
  | u :: us, o, w, h, j, hj => by
    obtain ⟨v0, h0⟩ := h 0 (by simp)
    rw [Nat.add_zero] at h0
    cases j with
    | zero =>
      show (sets _ g (o + 1) us).cell? ⟨g, o, none⟩ = some u
      rw [sets_other g us (o + 1) _ g o (by omega)]
      exact World.cell?_setCell_same _ _ _ h0
    | succ j =>
      have h1 : ∀ j, j < us.length → ∃ v, (w.setCell ⟨g, o, none⟩ u).cell? ⟨g, o + 1 + j, none⟩ = some v := fun j hj => by
        obtain ⟨v, hv⟩ := h (j + 1) (by simp <;> omega)
        refine ⟨v, ?_⟩
        rw [World.cell?_setCell_other _ _ _ _ (by intro e; simp only [Addr.mk.injEq] at e; omega), ← hv]
        congr 2; omega
      have := sets_at g us (o + 1) (w.setCell ⟨g, o, none⟩ u) h1 j (by simpa using hj)
      show (sets _ g (o + 1) us).cell? _ = _
      rw [show o + (j + 1) = o + 1 + j by omega]
      exact this
theorem sets_frozen (g : Nat) : ∀ (us : List Value) (o : Nat) (w : World) (a : Addr), (sets w g o us).frozen? a = w.frozen? a
  | [], o, w, a => rfl
  | u :: us, o, w, a => by
    show (sets _ g (o + 1) us).frozen? a = _
    rw [sets_frozen g us, World.frozen?_setCell]
theorem sets_heap (g : Nat) : ∀ (us : List Value) (o : Nat) (w : World) (b : Nat), b ≠ g → (sets w g o us).heap[b]? = w.heap[b]?
  | [], o, w, b, h => rfl
  | u :: us, o, w, b, h => by
    show (sets _ g (o + 1) us).heap[b]? = _
    rw [sets_heap g us _ _ b h]
    exact Below.heap_setCell _ _ _ _ h
theorem sets_below {B g : Nat} {a : World} (hg : B ≤ g) : ∀ (us : List Value) (o : Nat) (w : World), Below B a w → Below B a (sets w g o us)
  | [], o, w, h => h
  | u :: us, o, w, h => sets_below hg us (o + 1) _ (h.setCell hg u)
theorem Free.sets {B : Nat} {w : World} (h : Free B w) (g o : Nat) (us : List Value) : Free B (sets w g o us) := fun b i hb => by rw [sets_frozen]; exact h b i hb

theorem Row.sets {α : Type} {sz : Nat} {E : Elem α} (hE : E.Kept) {w : World} {S : Nat → Prop} {v : Value} {xs : List α} (h : Row sz E w S v xs) {g : Nat} (hg : ¬ S g) (o : Nat) (us : List Value) : Row sz E (sets w g o us) S v xs :=
  h.kept hE fun b hb _ => sets_heap g us o w b (fun e => hg (e ▸ hb))
/-- the cells of the next element are written -/
theorem Fill.step {α : Type} {sz : Nat} {E : Elem α} (hE : E.Kept) {w : World} {g n : Nat} {xs : List α} {x : α} {us : List Value} (hu : us.length = sz) (h : Fill sz E w g n xs) (hk : xs.length < n) (hx : E w (fun b => g < b) (fun j => us.getD j undef) x) :
    Fill sz E (sets w g (xs.length * sz) us) g n (xs ++ [x]) := by
  have room : xs.length * sz + sz ≤ n * sz := by
    have := Nat.mul_le_mul_right sz (show xs.length + 1 ≤ n from hk)
    rwa [Nat.succ_mul] at this
  have at_ := sets_at g us (xs.length * sz) w (fun j hj => h.1 _ (by omega))
  have kept : ∀ f (y : α), E w (fun b => g < b) f y → E (sets w g (xs.length * sz) us) (fun b => g < b) f y := fun f y => hE _ _ _ _ _ (fun b hb _ => sets_heap g us _ _ b (Nat.ne_of_gt hb))
  refine ⟨fun i hi => ?_, fun k y hy => ?_⟩
  · by_cases e : xs.length * sz ≤ i ∧ i < xs.length * sz + sz
    · have := at_ (i - xs.length * sz) (by omega)
      rw [show xs.length * sz + (i - xs.length * sz) = i by omega] at this
      exact ⟨_, this⟩
    · rw [sets_other g us _ w g i (by omega)]; exact h.1 i hi
  · by_cases e : k = xs.length
    · subst e
      simp at hy
      subst hy
      exact ⟨fun j => us.getD j undef, fun j hj => at_ j (by omega), kept _ _ hx⟩
    · have hlt : k < xs.length := by have := (List.getElem?_eq_some_iff.1 hy).1; simp at this; omega
      rw [List.getElem?_append_left hlt] at hy
      obtain ⟨f, h1, h2⟩ := h.2 k y hy
      have hm : (k + 1) * sz ≤ xs.length * sz := Nat.mul_le_mul_right sz hlt
      rw [Nat.succ_mul] at hm
      exact ⟨f, fun j hj => by rw [sets_other g us _ w g _ (by omega)]; exact h1 j hj, kept _ _ h2⟩
theorem take_snoc' {α : Type} (l : List α) (k : Nat) (h : k < l.length) : l.take (k + 1) = l.take k ++ [l[k]] := by
  rw [List.take_succ_eq_append_getElem h]
theorem len_take' {α : Type} (l : List α) (k : Nat) (h : k ≤ l.length) : (l.take k).length = k := by rw [List.length_take]; omega

set_option maxHeartbeats 1000000 in
set_option maxRecDepth 100000 in
theorem toStringS_any (w : World) (S : Nat → Prop) (v : Value) (ss : List ByteArray) (h : RStr w S v ss) (hl : ss.length ≤ 1048576) :
    Calls Tryz.prog 97 #[v] w (New (fun w S v => RStr w S v ss) w) := by
  obtain ⟨a, c, rfl⟩ := h.shape
  obtain ⟨C, hC, hmk⟩ := make_run (T := 71) (E := 9) (z := .string ⟨#[]⟩) (sz := 1) (by' := 16) Tryz.underlying71 (by kernel_rfl) (by decide) ss.length hl w
  go_enter Tryz.func97, Tryz.ntmps97
  go_wp2
  clear hmk
  have F0 := Fill.start 1 EStr w C 9 ss.length hC
  have B0 : Below w.heap.size w (w.alloc (.cells C 9)) := (Below.refl _ _).alloc (Nat.le_refl _) _
  have Z0 : Free w.heap.size (w.alloc (.cells C 9)) := (Free.start w).alloc _ _
  go_loopw [4] (fun i wr => ∃ k : Nat, k ≤ ss.length ∧ i = .int .i64 k ∧ Fill 1 EStr wr w.heap.size ss.length (ss.take k) ∧ Below w.heap.size w wr ∧ Free w.heap.size wr) (fun i _ => ss.length - (intOf i).toNat)
  case atStart => exact ⟨0, by omega, rfl, F0, B0, Z0⟩
  case round =>
    obtain ⟨k, hk, rfl, hF, hnx, hz⟩ := hrel
    clear F0 B0 Z0
    by_cases hlt : k < ss.length
    · obtain ⟨b, o, rfl, -, d, hs⟩ := RStr.at (h.below EStr.kept hnx) hlt
      obtain ⟨v0, hv0⟩ := hF.1 k (by omega)
      have hf0 := hz w.heap.size k (Nat.le_refl _)
      go_wp2
      go_roundw
      case rel =>
        have hF' := hF.step (sz := 1) EStr.kept (x := ss[k]) (us := [.string ss[k]]) rfl (by rw [len_take' ss k hk]; exact hlt) ⟨rfl, hs⟩
        rw [← take_snoc' ss k hlt, len_take' ss k hk, Nat.mul_one] at hF'
        exact ⟨k + 1, by omega, by go_num, hF', sets_below (Nat.le_refl _) [.string ss[k]] k _ hnx, hz.sets _ k [.string ss[k]]⟩
      case measure => simp [intOf]; omega
    · obtain rfl : k = ss.length := by omega
      go_wp2
      go_ret
      rw [List.take_length] at hF
      exact ⟨_, rfl, hF.done EStr.mono (Nat.le_refl _) (by omega), hnx, hz⟩

set_option maxHeartbeats 1000000 in
set_option maxRecDepth 100000 in
theorem toField_any (w : World) (x : Fld) :
    Calls Tryz.prog 117 #[.agg #[.string x.name, .string x.value]] w (New (fun _ _ v => v = .agg #[.string x.name, .string x.value]) w) := by
  go_enter Tryz.func117, Tryz.ntmps117
  go_wp2
  exact bodyPost_ret (v := .agg #[.string x.name, .string x.value]) (by simp [results, Tryz.results117, go_sem]) rfl ⟨_, rfl, rfl, (((Below.refl _ w).alloc (Nat.le_refl _) _).alloc (by simp) _).alloc (by simp <;> omega) _, (((Free.start w).alloc _ _).alloc _ _).alloc _ _⟩

set_option maxHeartbeats 1000000 in
set_option maxRecDepth 100000 in
theorem toFieldS_any (w : World) (S : Nat → Prop) (v : Value) (ss : List Fld) (h : RFld w S v ss) (hl : ss.length ≤ 1048576) :
    Calls Tryz.prog 98 #[v] w (New (fun w S v => RFld w S v ss) w) := by
  obtain ⟨a, c, rfl⟩ := h.shape
  obtain ⟨C, hC, hmk⟩ := make_run (T := 72) (E := 154) (z := .agg #[.string ⟨#[]⟩, .string ⟨#[]⟩]) (sz := 2) (by' := 32) Tryz.underlying72 (by kernel_rfl) (by decide) ss.length hl w
  go_enter Tryz.func98, Tryz.ntmps98
  go_wp2
  clear hmk
  have F0 := Fill.start 2 EFld w C 154 ss.length hC
  have B0 : Below w.heap.size w (w.alloc (.cells C 154)) := (Below.refl _ _).alloc (Nat.le_refl _) _
  have Z0 : Free w.heap.size (w.alloc (.cells C 154)) := (Free.start w).alloc _ _
  go_loopw [4] (fun i wr => ∃ k : Nat, k ≤ ss.length ∧ i = .int .i64 k ∧ Fill 2 EFld wr w.heap.size ss.length (ss.take k) ∧ Below w.heap.size w wr ∧ Free w.heap.size wr) (fun i _ => ss.length - (intOf i).toNat)
  case atStart => exact ⟨0, by omega, rfl, F0, B0, Z0⟩
  case round =>
    obtain ⟨k, hk, rfl, hF, hnx, hz⟩ := hrel
    clear F0 B0 Z0
    by_cases hlt : k < ss.length
    · obtain ⟨b, o, rfl, -, d0, d1, hs0, hs1⟩ := RFld.at (h.below EFld.kept hnx) hlt
      go_wp2_with (go_at_call 117; refine (toField_any _ ss[k]).mono ?_; rintro e w1 ⟨v, rfl, rfl, hb1, hz1⟩; have hF1 := hF.below EFld.kept hb1; obtain ⟨u0, hu0⟩ := hF1.1 (k * 2) (by omega); obtain ⟨u1, hu1⟩ := hF1.1 (k * 2 + 1) (by omega); have hz2 := hz.trans hb1 (hz1); have f0 := hz2 w.heap.size (k * 2) (Nat.le_refl _); have f1 := hz2 w.heap.size (k * 2 + 1) (Nat.le_refl _))
      go_roundw
      case rel =>
        have hF2 := (hF.below EFld.kept hb1).step (sz := 2) EFld.kept (x := ss[k]) (us := [.string ss[k].name, .string ss[k].value]) rfl (by rw [len_take' ss k hk]; exact hlt) ⟨rfl, rfl, hs0, hs1⟩
        rw [← take_snoc' ss k hlt, len_take' ss k hk] at hF2
        exact ⟨k + 1, by omega, by go_num, hF2, sets_below (Nat.le_refl _) [.string ss[k].name, .string ss[k].value] (k * 2) _ (hnx.trans (hb1.mono hnx.size)), hz2.sets _ (k * 2) [.string ss[k].name, .string ss[k].value]⟩
      case measure => simp [intOf]; omega
    · obtain rfl : k = ss.length := by omega
      go_wp2
      go_ret
      rw [List.take_length] at hF
      exact ⟨_, rfl, hF.done EFld.mono (Nat.le_refl _) (by omega), hnx, hz⟩

theorem bcell {W w1 : World} (hb : Below W.heap.size W w1) : (∀ b o, b < W.heap.size → w1.cell? ⟨b, o, none⟩ = W.cell? ⟨b, o, none⟩) ∧ (∀ b o, b < W.heap.size → w1.frozen? ⟨b, o, none⟩ = W.frozen? ⟨b, o, none⟩) :=
  ⟨fun b o h => hb.cell (p := ⟨b, o, none⟩) h, fun b o h => hb.frozen (p := ⟨b, o, none⟩) h⟩

set_option maxHeartbeats 1000000 in
set_option maxRecDepth 100000 in
theorem toNode_any (w : World) (S : Nat → Prop) (i : Int) (v1 v2 : Value) (ss : List ByteArray) (fs : List Fld) (h1 : RStr w S v1 ss) (h2 : RFld w S v2 fs) (l1 : ss.length ≤ 1048576) (l2 : fs.length ≤ 1048576) :
    Calls Tryz.prog 72 #[.agg #[.int .i64 i, v1, v2]] w (New (fun w S v => ∃ x1 x2, v = .agg #[.int .i64 i, x1, x2] ∧ RStr w S x1 ss ∧ RFld w S x2 fs) w) := by
  obtain ⟨a1, c1, rfl⟩ := h1.shape
  obtain ⟨a2, c2, rfl⟩ := h2.shape
  have hb0 := (((Below.refl _ w).alloc (Nat.le_refl _) (.cells #[.int .i64 i, .slice a1 ss.length c1, .slice a2 fs.length c2] 116)).alloc (by simp) (.cells #[.int .i64 0, .slice none 0 0, .slice none 0 0] 74)).alloc (by simp <;> omega) (.cells #[.int .i64 i, .slice none 0 0, .slice none 0 0] 74)
  have hz0 := (((Free.start w).alloc #[.int .i64 i, .slice a1 ss.length c1, .slice a2 fs.length c2] 116).alloc #[.int .i64 0, .slice none 0 0, .slice none 0 0] 74).alloc #[.int .i64 i, .slice none 0 0, .slice none 0 0] 74
  go_enter Tryz.func72, Tryz.ntmps72
  go_wp2_with (first
    | (go_at_call 97; refine (toStringS_any _ S _ ss (h1.below EStr.kept hb0) l1).mono ?_; rintro e w1 ⟨x1, rfl, r1, hb1, hz1⟩; obtain ⟨a3, c3, rfl⟩ := r1.shape; obtain ⟨hc1, hf1⟩ := bcell hb1; have hs1 : w.heap.size + 1 + 1 < w1.heap.size := (by have := hb1.size; simp at this; omega); have hs2 : w.heap.size + 1 < w1.heap.size := (by omega); have hs3 : w.heap.size < w1.heap.size := (by omega); have hb2 := (hb0.trans (hb1.mono (by simp <;> omega))).setCell (p := ⟨w.heap.size + 1 + 1, 1, none⟩) (by simp <;> omega) (.slice a3 ss.length c3); have hz2 := (hz0.trans hb1 hz1).set ⟨w.heap.size + 1 + 1, 1, none⟩ (.slice a3 ss.length c3))
    | (go_at_call 98; refine (toFieldS_any _ S _ fs (h2.below EFld.kept hb2) l2).mono ?_; rintro e w2 ⟨x2, rfl, r2, hb3, hz3⟩; obtain ⟨a4, c4, rfl⟩ := r2.shape; obtain ⟨hc2, hf2⟩ := bcell hb3; have hs4 : w.heap.size + 1 + 1 < w2.heap.size := (by have := hb3.size; simp at this; omega)))
  have R1 := ((((((r1.set EStr.kept (a := ⟨w.heap.size + 1 + 1, 1, none⟩) (by simp <;> omega) (.slice a3 ss.length c3)).below EStr.kept hb3).set EStr.kept (a := ⟨w.heap.size + 1 + 1, 2, none⟩) (by simp <;> omega) (.slice a4 fs.length c4)).set EStr.kept (a := ⟨w.heap.size + 1, 0, none⟩) (by simp <;> omega) (.int .i64 i)).set EStr.kept (a := ⟨w.heap.size + 1, 1, none⟩) (by simp <;> omega) (.slice a3 ss.length c3)).set EStr.kept (a := ⟨w.heap.size + 1, 2, none⟩) (by simp <;> omega) (.slice a4 fs.length c4)).mono EStr.mono (S' := fun b => w.heap.size ≤ b) (fun b hb => by simp at hb; omega)
  have R2 := ((((r2.set EFld.kept (a := ⟨w.heap.size + 1 + 1, 2, none⟩) (by simp <;> omega) (.slice a4 fs.length c4)).set EFld.kept (a := ⟨w.heap.size + 1, 0, none⟩) (by simp <;> omega) (.int .i64 i)).set EFld.kept (a := ⟨w.heap.size + 1, 1, none⟩) (by simp <;> omega) (.slice a3 ss.length c3)).set EFld.kept (a := ⟨w.heap.size + 1, 2, none⟩) (by simp <;> omega) (.slice a4 fs.length c4)).mono EFld.mono (S' := fun b => w.heap.size ≤ b) (fun b hb => by simp at hb; omega)
  refine bodyPost_ret (v := .agg #[.int .i64 i, .slice a3 ss.length c3, .slice a4 fs.length c4]) (by simp [results, Tryz.results72, go_sem, hc1, hc2, hs2]) rfl ⟨_, rfl, ⟨_, _, rfl, R1, R2⟩, ?_, ?_⟩
  · exact ((((hb2.trans (hb3.mono (by simp <;> omega))).setCell (by simp <;> omega) _).setCell (by simp) _).setCell (by simp) _).setCell (by simp) _
  · exact ((((hz2.trans hb3 hz3).set _ _).set _ _).set _ _).set _ _

set_option maxHeartbeats 1000000 in
set_option maxRecDepth 100000 in
theorem toNodeS_any (w : World) (S : Nat → Prop) (v : Value) (ss : List Nd) (h : RNd w S v ss) (hl : ss.length ≤ 1048576) (lim : ∀ n ∈ ss, n.labels.length ≤ 1048576 ∧ n.fields.length ≤ 1048576) :
    Calls Tryz.prog 39 #[v] w (New (fun w S v => RNd w S v ss) w) := by
  obtain ⟨a, c, rfl⟩ := h.shape
  obtain ⟨C, hC, hmk⟩ := make_run (T := 33) (E := 74) (z := .agg #[.int .i64 0, .slice none 0 0, .slice none 0 0]) (sz := 3) (by' := 56) Tryz.underlying33 (by kernel_rfl) (by decide) ss.length hl w
  go_enter Tryz.func39, Tryz.ntmps39
  go_wp2
  clear hmk
  have F0 := Fill.start 3 ENd w C 74 ss.length hC
  have B0 : Below w.heap.size w (w.alloc (.cells C 74)) := (Below.refl _ _).alloc (Nat.le_refl _) _
  have Z0 : Free w.heap.size (w.alloc (.cells C 74)) := (Free.start w).alloc _ _
  go_loopw [4] (fun i wr => ∃ k : Nat, k ≤ ss.length ∧ i = .int .i64 k ∧ Fill 3 ENd wr w.heap.size ss.length (ss.take k) ∧ Below w.heap.size w wr ∧ Free w.heap.size wr) (fun i _ => ss.length - (intOf i).toNat)
  case atStart => exact ⟨0, by omega, rfl, F0, B0, Z0⟩
  case round =>
    obtain ⟨k, hk, rfl, hF, hnx, hz⟩ := hrel
    clear F0 B0 Z0
    by_cases hlt : k < ss.length
    · obtain ⟨b, o, a1, c1, a2, c2, rfl, -, d0, d1, d2, r1, r2⟩ := RNd.at (h.below ENd.kept hnx) hlt
      go_wp2_with (go_at_call 72; refine (toNode_any _ S _ _ _ _ _ r1 r2 (lim ss[k] (List.getElem_mem hlt)).1 (lim ss[k] (List.getElem_mem hlt)).2).mono ?_; rintro e w1 ⟨v, rfl, ⟨x1, x2, rfl, q1, q2⟩, hb1, hz1⟩; obtain ⟨a3, c3, rfl⟩ := q1.shape; obtain ⟨a4, c4, rfl⟩ := q2.shape; obtain ⟨u9, hu0'⟩ := hF.1 (k * 3) (by omega); have hF1 := hF.below ENd.kept hb1; have hz2 := hz.trans hb1 hz1; obtain ⟨u0, hu0⟩ := hF1.1 (k * 3) (by omega); have f0 := hz2 w.heap.size (k * 3) (Nat.le_refl _); obtain ⟨u1, hu1⟩ := hF1.1 (k * 3 + 1) (by omega); have f1 := hz2 w.heap.size (k * 3 + 1) (Nat.le_refl _); obtain ⟨u2, hu2⟩ := hF1.1 (k * 3 + 2) (by omega); have f2 := hz2 w.heap.size (k * 3 + 2) (Nat.le_refl _))
      go_roundw
      case rel =>
        have hF2 := (hF.below ENd.kept hb1).step (sz := 3) ENd.kept (x := ss[k]) (us := [.int .i64 ss[k].id, .slice a3 ss[k].labels.length c3, .slice a4 ss[k].fields.length c4]) rfl (by rw [len_take' ss k hk]; exact hlt) ⟨rfl, q1.mono EStr.mono (fun b hb => Nat.lt_of_lt_of_le (lt_of_cell hu0') hb), q2.mono EFld.mono (fun b hb => Nat.lt_of_lt_of_le (lt_of_cell hu0') hb)⟩
        rw [← take_snoc' ss k hlt, len_take' ss k hk] at hF2
        exact ⟨k + 1, by omega, by go_num, hF2, sets_below (Nat.le_refl _) [.int .i64 ss[k].id, .slice a3 ss[k].labels.length c3, .slice a4 ss[k].fields.length c4] (k * 3) _ (hnx.trans (hb1.mono hnx.size)), hz2.sets _ (k * 3) [.int .i64 ss[k].id, .slice a3 ss[k].labels.length c3, .slice a4 ss[k].fields.length c4]⟩
      case measure => simp [intOf]; omega
    · obtain rfl : k = ss.length := by omega
      go_wp2
      go_ret
      rw [List.take_length] at hF
      exact ⟨_, rfl, hF.done ENd.mono (Nat.le_refl _) (by omega), hnx, hz⟩


set_option maxHeartbeats 1000000 in
set_option maxRecDepth 100000 in
theorem toEdge_any (w : World) (S : Nat → Prop) (i x y : Int) (t : ByteArray) (v2 : Value) (fs : List Fld) (h2 : RFld w S v2 fs) (l2 : fs.length ≤ 1048576) :
    Calls Tryz.prog 73 #[.agg #[.int .i64 i, .string t, .int .i64 x, .int .i64 y, v2]] w (New (fun w S v => ∃ x2, v = .agg #[.int .i64 i, .string t, .int .i64 x, .int .i64 y, x2] ∧ RFld w S x2 fs) w) := by
  obtain ⟨a2, c2, rfl⟩ := h2.shape
  have hb0 := (((Below.refl _ w).alloc (Nat.le_refl _) (.cells #[.int .i64 i, .string t, .int .i64 x, .int .i64 y, .slice a2 fs.length c2] 119)).alloc (by simp) (.cells #[.int .i64 0, .string ⟨#[]⟩, .int .i64 0, .int .i64 0, .slice none 0 0] 122)).alloc (by simp <;> omega) (.cells #[.int .i64 i, .string t, .int .i64 x, .int .i64 y, .slice none 0 0] 122)
  have hz0 := (((Free.start w).alloc #[.int .i64 i, .string t, .int .i64 x, .int .i64 y, .slice a2 fs.length c2] 119).alloc #[.int .i64 0, .string ⟨#[]⟩, .int .i64 0, .int .i64 0, .slice none 0 0] 122).alloc #[.int .i64 i, .string t, .int .i64 x, .int .i64 y, .slice none 0 0] 122
  go_enter Tryz.func73, Tryz.ntmps73
  go_wp2_with (first
    | (go_at_call 98; refine (toFieldS_any _ S _ fs (h2.below EFld.kept hb0) l2).mono ?_; rintro e w2 ⟨x2, rfl, r2, hb3, hz3⟩; obtain ⟨a4, c4, rfl⟩ := r2.shape; obtain ⟨hc2, hf2⟩ := bcell hb3; have hs4 : w.heap.size + 1 + 1 < w2.heap.size := (by have := hb3.size; simp at this; omega)))
  have R2 := ((r2.set EFld.kept (a := ⟨w.heap.size + 1 + 1, 4, none⟩) (by simp <;> omega) (.slice a4 fs.length c4)).sets EFld.kept (g := w.heap.size + 1) (by simp <;> omega) 0 [.int .i64 i, .string t, .int .i64 x, .int .i64 y, .slice a4 fs.length c4]).mono EFld.mono (S' := fun b => w.heap.size ≤ b) (fun b hb => by simp at hb; omega)
  refine bodyPost_ret (v := .agg #[.int .i64 i, .string t, .int .i64 x, .int .i64 y, .slice a4 fs.length c4]) (by simp [results, Tryz.results73, go_sem, hc2]) rfl ⟨_, rfl, ⟨_, rfl, R2⟩, ?_, ?_⟩
  · exact sets_below (g := w.heap.size + 1) (by omega) [.int .i64 i, .string t, .int .i64 x, .int .i64 y, .slice a4 fs.length c4] 0 _ ((hb0.trans (hb3.mono (by simp <;> omega))).setCell (by simp <;> omega) _)
  · exact ((hz0.trans hb3 hz3).set _ _).sets (w.heap.size + 1) 0 [.int .i64 i, .string t, .int .i64 x, .int .i64 y, .slice a4 fs.length c4]

set_option maxHeartbeats 1000000 in
set_option maxRecDepth 100000 in
theorem toEdgeS_any (w : World) (S : Nat → Prop) (v : Value) (ss : List Ed) (h : REd w S v ss) (hl : ss.length ≤ 1048576) (lim : ∀ n ∈ ss, n.fields.length ≤ 1048576) :
    Calls Tryz.prog 40 #[v] w (New (fun w S v => REd w S v ss) w) := by
  obtain ⟨a, c, rfl⟩ := h.shape
  obtain ⟨C, hC, hmk⟩ := make_run (T := 34) (E := 122) (z := .agg #[.int .i64 0, .string ⟨#[]⟩, .int .i64 0, .int .i64 0, .slice none 0 0]) (sz := 5) (by' := 64) Tryz.underlying34 (by kernel_rfl) (by decide) ss.length hl w
  go_enter Tryz.func40, Tryz.ntmps40
  go_wp2
  clear hmk
  have F0 := Fill.start 5 EEd w C 122 ss.length hC
  have B0 : Below w.heap.size w (w.alloc (.cells C 122)) := (Below.refl _ _).alloc (Nat.le_refl _) _
  have Z0 : Free w.heap.size (w.alloc (.cells C 122)) := (Free.start w).alloc _ _
  go_loopw [4] (fun i wr => ∃ k : Nat, k ≤ ss.length ∧ i = .int .i64 k ∧ Fill 5 EEd wr w.heap.size ss.length (ss.take k) ∧ Below w.heap.size w wr ∧ Free w.heap.size wr) (fun i _ => ss.length - (intOf i).toNat)
  case atStart => exact ⟨0, by omega, rfl, F0, B0, Z0⟩
  case round =>
    obtain ⟨k, hk, rfl, hF, hnx, hz⟩ := hrel
    clear F0 B0 Z0
    by_cases hlt : k < ss.length
    · obtain ⟨b, o, a2, c2, rfl, -, d0, d1, d2, d3, d4, r2, hsz⟩ := REd.at (h.below EEd.kept hnx) hlt
      go_wp2_with (go_at_call 73; refine (toEdge_any _ S _ _ _ _ _ _ r2 (lim ss[k] (List.getElem_mem hlt))).mono ?_; rintro e w1 ⟨v, rfl, ⟨x2, rfl, q2⟩, hb1, hz1⟩; obtain ⟨a4, c4, rfl⟩ := q2.shape; obtain ⟨u9, hu0'⟩ := hF.1 (k * 5) (by omega); have hF1 := hF.below EEd.kept hb1; have hz2 := hz.trans hb1 hz1; obtain ⟨u0, hu0⟩ := hF1.1 (k * 5) (by omega); have f0 := hz2 w.heap.size (k * 5) (Nat.le_refl _); obtain ⟨u1, hu1⟩ := hF1.1 (k * 5 + 1) (by omega); have f1 := hz2 w.heap.size (k * 5 + 1) (Nat.le_refl _); obtain ⟨u2, hu2⟩ := hF1.1 (k * 5 + 2) (by omega); have f2 := hz2 w.heap.size (k * 5 + 2) (Nat.le_refl _); obtain ⟨u3, hu3⟩ := hF1.1 (k * 5 + 3) (by omega); have f3 := hz2 w.heap.size (k * 5 + 3) (Nat.le_refl _); obtain ⟨u4, hu4⟩ := hF1.1 (k * 5 + 4) (by omega); have f4 := hz2 w.heap.size (k * 5 + 4) (Nat.le_refl _))
      go_roundw
      case rel =>
        have hF2 := (hF.below EEd.kept hb1).step (sz := 5) EEd.kept (x := ss[k]) (us := [.int .i64 ss[k].id, .string ss[k].type, .int .i64 ss[k].src, .int .i64 ss[k].dst, .slice a4 ss[k].fields.length c4]) rfl (by rw [len_take' ss k hk]; exact hlt) ⟨rfl, rfl, rfl, rfl, q2.mono EFld.mono (fun b hb => Nat.lt_of_lt_of_le (lt_of_cell hu0') hb), hsz⟩
        rw [← take_snoc' ss k hlt, len_take' ss k hk] at hF2
        exact ⟨k + 1, by omega, by go_num, hF2, sets_below (Nat.le_refl _) [.int .i64 ss[k].id, .string ss[k].type, .int .i64 ss[k].src, .int .i64 ss[k].dst, .slice a4 ss[k].fields.length c4] (k * 5) _ (hnx.trans (hb1.mono hnx.size)), hz2.sets _ (k * 5) [.int .i64 ss[k].id, .string ss[k].type, .int .i64 ss[k].src, .int .i64 ss[k].dst, .slice a4 ss[k].fields.length c4]⟩
      case measure => simp [intOf]; omega
    · obtain rfl : k = ss.length := by omega
      go_wp2
      go_ret
      rw [List.take_length] at hF
      exact ⟨_, rfl, hF.done EEd.mono (Nat.le_refl _) (by omega), hnx, hz⟩


set_option maxHeartbeats 1000000 in
set_option maxRecDepth 100000 in
theorem toGraph_any (w : World) (S : Nat → Prop) (v : Value) (g : Gr) (h : RGr w S v g) (l1 : g.nodes.length ≤ 1048576) (l2 : g.edges.length ≤ 1048576) (lim1 : ∀ n ∈ g.nodes, n.labels.length ≤ 1048576 ∧ n.fields.length ≤ 1048576) (lim2 : ∀ n ∈ g.edges, n.fields.length ≤ 1048576) :
    Calls Tryz.prog 10 #[v] w (New (fun w S v => RGr w S v g) w) := by
  obtain ⟨v1, v2, rfl, h1, h2⟩ := h
  obtain ⟨a1, c1, rfl⟩ := h1.shape
  obtain ⟨a2, c2, rfl⟩ := h2.shape
  have hb0 := (((Below.refl _ w).alloc (Nat.le_refl _) (.cells #[.slice a1 g.nodes.length c1, .slice a2 g.edges.length c2] 25)).alloc (by simp) (.cells #[.slice none 0 0, .slice none 0 0] 36)).alloc (by simp <;> omega) (.cells #[.slice none 0 0, .slice none 0 0] 36)
  have hz0 := (((Free.start w).alloc #[.slice a1 g.nodes.length c1, .slice a2 g.edges.length c2] 25).alloc #[.slice none 0 0, .slice none 0 0] 36).alloc #[.slice none 0 0, .slice none 0 0] 36
  go_enter Tryz.func10, Tryz.ntmps10
  go_wp2_with (first
    | (go_at_call 39; refine (toNodeS_any _ S _ g.nodes (h1.below ENd.kept hb0) l1 lim1).mono ?_; rintro e w1 ⟨x1, rfl, r1, hb1, hz1⟩; obtain ⟨a3, c3, rfl⟩ := r1.shape; obtain ⟨hc1, hf1⟩ := bcell hb1; have hs1 : w.heap.size + 1 + 1 < w1.heap.size := (by have := hb1.size; simp at this; omega); have hs2 : w.heap.size + 1 < w1.heap.size := (by omega); have hs3 : w.heap.size < w1.heap.size := (by omega); have hb2 := (hb0.trans (hb1.mono (by simp <;> omega))).setCell (p := ⟨w.heap.size + 1 + 1, 0, none⟩) (by simp <;> omega) (.slice a3 g.nodes.length c3); have hz2 := (hz0.trans hb1 hz1).set ⟨w.heap.size + 1 + 1, 0, none⟩ (.slice a3 g.nodes.length c3))
    | (go_at_call 40; refine (toEdgeS_any _ S _ g.edges (h2.below EEd.kept hb2) l2 lim2).mono ?_; rintro e w2 ⟨x2, rfl, r2, hb3, hz3⟩; obtain ⟨a4, c4, rfl⟩ := r2.shape; obtain ⟨hc2, hf2⟩ := bcell hb3; have hs4 : w.heap.size + 1 + 1 < w2.heap.size := (by have := hb3.size; simp at this; omega)))
  have R1 := (((r1.set ENd.kept (a := ⟨w.heap.size + 1 + 1, 0, none⟩) (by simp <;> omega) (.slice a3 g.nodes.length c3)).below ENd.kept hb3).set ENd.kept (a := ⟨w.heap.size + 1 + 1, 1, none⟩) (by simp <;> omega) (.slice a4 g.edges.length c4)).sets ENd.kept (g := w.heap.size + 1) (by simp <;> omega) 0 [.slice a3 g.nodes.length c3, .slice a4 g.edges.length c4]
  have R2 := (r2.set EEd.kept (a := ⟨w.heap.size + 1 + 1, 1, none⟩) (by simp <;> omega) (.slice a4 g.edges.length c4)).sets EEd.kept (g := w.heap.size + 1) (by simp <;> omega) 0 [.slice a3 g.nodes.length c3, .slice a4 g.edges.length c4]
  refine bodyPost_ret (v := .agg #[.slice a3 g.nodes.length c3, .slice a4 g.edges.length c4]) (by simp [results, Tryz.results10, go_sem, hc1, hc2, hs2]) rfl ⟨_, rfl, ⟨_, _, rfl, R1.mono ENd.mono (fun b hb => by simp at hb; omega), R2.mono EEd.mono (fun b hb => by simp at hb; omega)⟩, ?_, ?_⟩
  · exact sets_below (g := w.heap.size + 1) (by omega) [.slice a3 g.nodes.length c3, .slice a4 g.edges.length c4] 0 _ ((hb2.trans (hb3.mono (by simp <;> omega))).setCell (by simp <;> omega) _)
  · exact ((hz2.trans hb3 hz3).set _ _).sets (w.heap.size + 1) 0 [.slice a3 g.nodes.length c3, .slice a4 g.edges.length c4]
end Go.Proofs.YtllhimeffkefiaaGreatDoor
/- The walks of the laws' comparisons, at equal data: each says yes. No condition beyond what each theorem states. -/
set_option linter.unusedVariables false
namespace Go.Proofs.YtllhimeffkefiaaGreatDoor
open Go.RowKit

def Tru (w : World) (e : Ending) (w' : World) : Prop := e = .returned (.bool true) ∧ Below w.heap.size w w'
/-- for a region that draws its order: what is kept of the world wr -/
def KeepC (wr w' : World) : Prop := ∀ b o, b < wr.heap.size → w'.cell? ⟨b, o, none⟩ = wr.cell? ⟨b, o, none⟩
theorem keep0 (wr : World) : Below wr.heap.size wr wr.drew ∧ ∀ b o, b < wr.heap.size → wr.drew.cell? ⟨b, o, none⟩ = wr.cell? ⟨b, o, none⟩ := ⟨(Below.refl _ _).drew, fun _ _ _ => rfl⟩
theorem keep1 {wr W w' : World} (h : Below wr.heap.size wr W ∧ ∀ b o, b < wr.heap.size → W.cell? ⟨b, o, none⟩ = wr.cell? ⟨b, o, none⟩) (hb : Below W.heap.size W w') : Below wr.heap.size wr w' ∧ ∀ b o, b < wr.heap.size → w'.cell? ⟨b, o, none⟩ = wr.cell? ⟨b, o, none⟩ :=
  ⟨h.1.trans (hb.mono h.1.size), fun b o hlt => ((h.1.trans (hb.mono h.1.size)).cell (p := ⟨b, o, none⟩) hlt)⟩

set_option maxHeartbeats 1000000 in
set_option maxRecDepth 100000 in
theorem eqStringS_any (w : World) (S S' : Nat → Prop) (v v' : Value) (ss : List ByteArray) (h : RStr w S v ss) (h' : RStr w S' v' ss) : Calls Tryz.prog 102 #[v, v'] w (Tru w) := by
  obtain ⟨a, c, rfl⟩ := h.shape
  obtain ⟨a', c', rfl⟩ := h'.shape
  have hl := h.len
  go_enter Tryz.func102, Tryz.ntmps102
  go_wp2
  go_loopw [5] (fun i wr => ∃ k : Nat, k ≤ ss.length ∧ i = .int .i64 k ∧ Below w.heap.size w wr) (fun i _ => ss.length - (intOf i).toNat)
  case atStart => exact ⟨0, by omega, rfl, Below.refl _ _⟩
  case round =>
    obtain ⟨k, hk, rfl, hnx⟩ := hrel
    by_cases hlt : k < ss.length
    · obtain ⟨b, o, rfl, -, d, -⟩ := RStr.at (h.below EStr.kept hnx) hlt
      obtain ⟨b', o', rfl, -, d', -⟩ := RStr.at (h'.below EStr.kept hnx) hlt
      go_wp2
      go_quiet (fail)
      go_wp2
      go_roundw
      case rel => exact ⟨k + 1, by omega, by go_num, ⟨hnx.os, hnx.tape, hnx.output, hnx.size, hnx.block⟩⟩
      case measure => simp [intOf]; omega
    · obtain rfl : k = ss.length := by omega
      go_wp2
      go_ret
      exact ⟨rfl, hnx⟩

set_option maxHeartbeats 1000000 in
set_option maxRecDepth 100000 in
theorem eqField_any (w : World) (x : Fld) : Calls Tryz.prog 118 #[.agg #[.string x.name, .string x.value], .agg #[.string x.name, .string x.value]] w (Tru w) := by
  go_enter Tryz.func118, Tryz.ntmps118
  go_wp2
  go_ret
  exact ⟨rfl, ((Below.refl _ w).alloc (Nat.le_refl _) _).alloc (by simp) _⟩

set_option maxHeartbeats 1000000 in
set_option maxRecDepth 100000 in
theorem eqFieldS_any (w : World) (S S' : Nat → Prop) (v v' : Value) (ss : List Fld) (h : RFld w S v ss) (h' : RFld w S' v' ss) : Calls Tryz.prog 103 #[v, v'] w (Tru w) := by
  obtain ⟨a, c, rfl⟩ := h.shape
  obtain ⟨a', c', rfl⟩ := h'.shape
  have hl := h.len
  go_enter Tryz.func103, Tryz.ntmps103
  go_wp2
  go_loopw [5] (fun i wr => ∃ k : Nat, k ≤ ss.length ∧ i = .int .i64 k ∧ Below w.heap.size w wr) (fun i _ => ss.length - (intOf i).toNat)
  case atStart => exact ⟨0, by omega, rfl, Below.refl _ _⟩
  case round =>
    obtain ⟨k, hk, rfl, hnx⟩ := hrel
    by_cases hlt : k < ss.length
    · obtain ⟨b, o, rfl, -, d0, d1, -, -⟩ := RFld.at (h.below EFld.kept hnx) hlt
      obtain ⟨b', o', rfl, -, d0', d1', -, -⟩ := RFld.at (h'.below EFld.kept hnx) hlt
      have hb := lt_of_cell d0
      have hb' := lt_of_cell d0'
      go_wp2_with fail
      go_region_held3 (fun w' => Below wr.heap.size wr w' ∧ ∀ b o, b < wr.heap.size → w'.cell? ⟨b, o, none⟩ = wr.cell? ⟨b, o, none⟩) (first | exact keep0 _ | exact keep1 ‹_› ‹_› | go_keep)
        (first | (go_at_call 118; refine (eqField_any _ ss[k]).mono ?_; rintro e w1 ⟨rfl, hb1⟩))
      rename_i hS
      go_wp2
      go_roundw
      case rel => exact ⟨k + 1, by omega, by go_num, hnx.trans (hS.1.mono hnx.size)⟩
      case measure => simp [intOf]; omega
    · obtain rfl : k = ss.length := by omega
      go_wp2
      go_ret
      exact ⟨rfl, hnx⟩

set_option maxHeartbeats 1000000 in
set_option maxRecDepth 100000 in
theorem eqNode_any (w : World) (S S' : Nat → Prop) (i : Int) (v1 v2 v1' v2' : Value) (ss : List ByteArray) (fs : List Fld) (h1 : RStr w S v1 ss) (h2 : RFld w S v2 fs) (h1' : RStr w S' v1' ss) (h2' : RFld w S' v2' fs) :
    Calls Tryz.prog 78 #[.agg #[.int .i64 i, v1, v2], .agg #[.int .i64 i, v1', v2']] w (Tru w) := by
  obtain ⟨a1, c1, rfl⟩ := h1.shape
  obtain ⟨a2, c2, rfl⟩ := h2.shape
  obtain ⟨a1', c1', rfl⟩ := h1'.shape
  obtain ⟨a2', c2', rfl⟩ := h2'.shape
  have hb0 := (((Below.refl _ w).alloc (Nat.le_refl _) (.cells #[.int .i64 i, .slice a1 ss.length c1, .slice a2 fs.length c2] 74)).alloc (by simp) (.cells #[.int .i64 i, .slice a1' ss.length c1', .slice a2' fs.length c2'] 74))
  go_enter Tryz.func78, Tryz.ntmps78
  go_wp2_with (first
    | (go_at_call 102; refine (eqStringS_any _ S S' _ _ ss (h1.below EStr.kept hb0) (h1'.below EStr.kept hb0)).mono ?_; rintro e w1 ⟨rfl, hb1⟩; obtain ⟨hc1, hf1⟩ := bcell hb1; have hs1 : w.heap.size + 1 < w1.heap.size := (by have := hb1.size; simp at this; omega); have hs2 : w.heap.size < w1.heap.size := (by omega); have hb2 := hb0.trans (hb1.mono (by simp <;> omega)))
    | (go_at_call 103; refine (eqFieldS_any _ S S' _ _ fs (h2.below EFld.kept hb2) (h2'.below EFld.kept hb2)).mono ?_; rintro e w2 ⟨rfl, hb3⟩))
  go_ret
  exact ⟨rfl, hb2.trans (hb3.mono hb2.size)⟩
set_option maxHeartbeats 1000000 in
set_option maxRecDepth 100000 in
theorem eqNodeS_any (w : World) (S S' : Nat → Prop) (v v' : Value) (ss : List Nd) (h : RNd w S v ss) (h' : RNd w S' v' ss) : Calls Tryz.prog 44 #[v, v'] w (Tru w) := by
  obtain ⟨a, c, rfl⟩ := h.shape
  obtain ⟨a', c', rfl⟩ := h'.shape
  have hl := h.len
  go_enter Tryz.func44, Tryz.ntmps44
  go_wp2
  go_loopw [5] (fun i wr => ∃ k : Nat, k ≤ ss.length ∧ i = .int .i64 k ∧ Below w.heap.size w wr) (fun i _ => ss.length - (intOf i).toNat)
  case atStart => exact ⟨0, by omega, rfl, Below.refl _ _⟩
  case round =>
    obtain ⟨k, hk, rfl, hnx⟩ := hrel
    by_cases hlt : k < ss.length
    · obtain ⟨b, o, a1, c1, a2, c2, rfl, -, d0, d1, d2, r1, r2⟩ := RNd.at (h.below ENd.kept hnx) hlt
      obtain ⟨b', o', a1', c1', a2', c2', rfl, -, d0', d1', d2', r1', r2'⟩ := RNd.at (h'.below ENd.kept hnx) hlt
      have hb := lt_of_cell d0
      have hb' := lt_of_cell d0'
      go_wp2_with fail
      go_region_held3 (fun w' => Below wr.heap.size wr w' ∧ ∀ b o, b < wr.heap.size → w'.cell? ⟨b, o, none⟩ = wr.cell? ⟨b, o, none⟩) (first | exact keep0 _ | exact keep1 ‹_› ‹_› | go_keep)
        (first | (go_at_call 78; have hSS := keep0 wr; refine (eqNode_any _ S S' _ _ _ _ _ _ _ (r1.below EStr.kept hSS.1) (r2.below EFld.kept hSS.1) (r1'.below EStr.kept hSS.1) (r2'.below EFld.kept hSS.1)).mono ?_; rintro e w1 ⟨rfl, hb1⟩))
      rename_i hS
      go_wp2
      go_roundw
      case rel => exact ⟨k + 1, by omega, by go_num, hnx.trans (hS.1.mono hnx.size)⟩
      case measure => simp [intOf]; omega
    · obtain rfl : k = ss.length := by omega
      go_wp2
      go_ret
      exact ⟨rfl, hnx⟩

set_option maxHeartbeats 1000000 in
set_option maxRecDepth 100000 in
theorem eqEdge_any (w : World) (S S' : Nat → Prop) (i x y : Int) (t : ByteArray) (v2 v2' : Value) (fs : List Fld) (h2 : RFld w S v2 fs) (h2' : RFld w S' v2' fs) :
    Calls Tryz.prog 79 #[.agg #[.int .i64 i, .string t, .int .i64 x, .int .i64 y, v2], .agg #[.int .i64 i, .string t, .int .i64 x, .int .i64 y, v2']] w (Tru w) := by
  obtain ⟨a2, c2, rfl⟩ := h2.shape
  obtain ⟨a2', c2', rfl⟩ := h2'.shape
  have hb0 := (((Below.refl _ w).alloc (Nat.le_refl _) (.cells #[.int .i64 i, .string t, .int .i64 x, .int .i64 y, .slice a2 fs.length c2] 122)).alloc (by simp) (.cells #[.int .i64 i, .string t, .int .i64 x, .int .i64 y, .slice a2' fs.length c2'] 122))
  go_enter Tryz.func79, Tryz.ntmps79
  go_wp2_with (first
    | (go_at_call 103; refine (eqFieldS_any _ S S' _ _ fs (h2.below EFld.kept hb0) (h2'.below EFld.kept hb0)).mono ?_; rintro e w2 ⟨rfl, hb3⟩))
  go_ret
  exact ⟨rfl, hb0.trans (hb3.mono hb0.size)⟩
set_option maxHeartbeats 1000000 in
set_option maxRecDepth 100000 in
theorem eqEdgeS_any (w : World) (S S' : Nat → Prop) (v v' : Value) (ss : List Ed) (h : REd w S v ss) (h' : REd w S' v' ss) : Calls Tryz.prog 45 #[v, v'] w (Tru w) := by
  obtain ⟨a, c, rfl⟩ := h.shape
  obtain ⟨a', c', rfl⟩ := h'.shape
  have hl := h.len
  go_enter Tryz.func45, Tryz.ntmps45
  go_wp2
  go_loopw [5] (fun i wr => ∃ k : Nat, k ≤ ss.length ∧ i = .int .i64 k ∧ Below w.heap.size w wr) (fun i _ => ss.length - (intOf i).toNat)
  case atStart => exact ⟨0, by omega, rfl, Below.refl _ _⟩
  case round =>
    obtain ⟨k, hk, rfl, hnx⟩ := hrel
    by_cases hlt : k < ss.length
    · obtain ⟨b, o, a1, c1, rfl, -, d0, d1, d2, d3, d4, r1, -⟩ := REd.at (h.below EEd.kept hnx) hlt
      obtain ⟨b', o', a1', c1', rfl, -, d0', d1', d2', d3', d4', r1', -⟩ := REd.at (h'.below EEd.kept hnx) hlt
      have hb := lt_of_cell d0
      have hb' := lt_of_cell d0'
      go_wp2_with fail
      go_region_held3 (fun w' => Below wr.heap.size wr w' ∧ ∀ b o, b < wr.heap.size → w'.cell? ⟨b, o, none⟩ = wr.cell? ⟨b, o, none⟩) (first | exact keep0 _ | exact keep1 ‹_› ‹_› | go_keep)
        (first | (go_at_call 79; have hSS := keep0 wr; refine (eqEdge_any _ S S' _ _ _ _ _ _ _ (r1.below EFld.kept hSS.1) (r1'.below EFld.kept hSS.1)).mono ?_; rintro e w1 ⟨rfl, hb1⟩))
      rename_i hS
      go_wp2
      go_roundw
      case rel => exact ⟨k + 1, by omega, by go_num, hnx.trans (hS.1.mono hnx.size)⟩
      case measure => simp [intOf]; omega
    · obtain rfl : k = ss.length := by omega
      go_wp2
      go_ret
      exact ⟨rfl, hnx⟩

set_option maxHeartbeats 1000000 in
set_option maxRecDepth 100000 in
theorem eqGraph_any (w : World) (S S' : Nat → Prop) (v v' : Value) (g : Gr) (h : RGr w S v g) (h' : RGr w S' v' g) : Calls Tryz.prog 13 #[v, v'] w (Tru w) := by
  obtain ⟨v1, v2, rfl, h1, h2⟩ := h
  obtain ⟨v1', v2', rfl, h1', h2'⟩ := h'
  obtain ⟨a1, c1, rfl⟩ := h1.shape
  obtain ⟨a2, c2, rfl⟩ := h2.shape
  obtain ⟨a1', c1', rfl⟩ := h1'.shape
  obtain ⟨a2', c2', rfl⟩ := h2'.shape
  have hb0 := (((Below.refl _ w).alloc (Nat.le_refl _) (.cells #[.slice a1 g.nodes.length c1, .slice a2 g.edges.length c2] 36)).alloc (by simp) (.cells #[.slice a1' g.nodes.length c1', .slice a2' g.edges.length c2'] 36))
  go_enter Tryz.func13, Tryz.ntmps13
  go_wp2_with (first
    | (go_at_call 44; refine (eqNodeS_any _ S S' _ _ g.nodes (h1.below ENd.kept hb0) (h1'.below ENd.kept hb0)).mono ?_; rintro e w1 ⟨rfl, hb1⟩; obtain ⟨hc1, hf1⟩ := bcell hb1; have hs1 : w.heap.size + 1 < w1.heap.size := (by have := hb1.size; simp at this; omega); have hs2 : w.heap.size < w1.heap.size := (by omega); have hb2 := hb0.trans (hb1.mono (by simp <;> omega)))
    | (go_at_call 45; refine (eqEdgeS_any _ S S' _ _ g.edges (h2.below EEd.kept hb2) (h2'.below EEd.kept hb2)).mono ?_; rintro e w2 ⟨rfl, hb3⟩))
  go_ret
  exact ⟨rfl, hb2.trans (hb3.mono hb2.size)⟩
end Go.Proofs.YtllhimeffkefiaaGreatDoor
/- The walks of the laws' marks over what a copy holds: they end, and turn nothing outside the copy. Condition: fewer than 10^9 marks. -/
set_option linter.unusedVariables false
namespace Go.Proofs.YtllhimeffkefiaaGreatDoor
open Go.RowKit

/-- the decimal digits of a number ahead of a text -/
def dgs : Nat → Nat → List UInt8 → List UInt8
  | 0, _, acc => acc
  | f + 1, k, acc => if k = 0 then acc else dgs f (k / 10) (UInt8.ofNat (48 + k % 10) :: acc)
def markB (k : Nat) : List UInt8 := 109 :: dgs k k []
theorem dgs_zero (f : Nat) (acc : List UInt8) : dgs f 0 acc = acc := by cases f <;> simp [dgs]
theorem dgs_fuel : ∀ (f g k : Nat) (acc : List UInt8), k ≤ f → k ≤ g → dgs f k acc = dgs g k acc
  | 0, g, k, acc, hf, hg => by obtain rfl : k = 0 := by omega
                               simp [dgs_zero]
  | f + 1, 0, k, acc, hf, hg => by obtain rfl : k = 0 := by omega
                                   simp [dgs_zero]
  | f + 1, g + 1, k, acc, hf, hg => by
    by_cases h : k = 0
    · simp [dgs, h]
    · simp only [dgs, if_neg h]
      exact dgs_fuel f g (k / 10) _ (by omega) (by omega)
theorem dgs_step (k : Nat) (acc : List UInt8) (h : 0 < k) : dgs k k acc = dgs (k / 10) (k / 10) (UInt8.ofNat (48 + k % 10) :: acc) := by
  obtain ⟨j, rfl⟩ : ∃ j, k = j + 1 := ⟨k - 1, by omega⟩
  conv => lhs; rw [dgs]
  rw [if_neg (by omega)]
  exact dgs_fuel _ _ _ _ (by omega) (by omega)
theorem app1 (d d' : UInt8) {acc : List UInt8} (h : d = d') : (⟨#[d]⟩ ++ ⟨acc.toArray⟩ : ByteArray) = ⟨(d' :: acc).toArray⟩ := by
  subst h
  apply ByteArray.ext
  simp
def markS (k : Nat) : ByteArray := ⟨(markB k).toArray⟩
def Marked (s : ByteArray) (w : World) (e : Ending) (w' : World) : Prop := e = .returned (.string s) ∧ Below w.heap.size w w'

set_option maxHeartbeats 1000000 in
set_option maxRecDepth 100000 in
theorem markText_any (k : Nat) (w : World) (hk : 0 < k) (hk2 : k < 1000000000) : Calls Tryz.prog 87 #[.int .i64 k] w (Marked (markS k) w) := by
  go_enter Tryz.func87, Tryz.ntmps87
  go_wp2
  go_loopw [0, 3] (fun i t wr => ∃ (j : Nat) (acc : List UInt8), j < 1000000000 ∧ acc.length + j ≤ k ∧ i = .int .i64 j ∧ t = .string ⟨acc.toArray⟩ ∧ Hid (dgs k k [] = dgs j j acc) ∧ Below w.heap.size w wr)
    (fun i _ _ => (intOf i).toNat)
  case atStart => exact ⟨k, [], hk2, by simp, rfl, rfl, rfl, Below.refl _ _⟩
  case round =>
    obtain ⟨j, acc, hj, hl, rfl, rfl, hd, hnx⟩ := hrel
    by_cases h0 : 0 < j
    · have hcv : (convert 155 9 (.slice (some ⟨wr.heap.size, 0, none⟩) 1 1)).run Tryz.prog (wr.alloc (.cells #[.int .u8 (48 + (j : Int) % 10)] 5)) = .ok (.string ⟨#[UInt8.ofNat (48 + j % 10)]⟩) (wr.alloc (.cells #[.int .u8 (48 + (j : Int) % 10)] 5)) := by
        refine run_convert_bytes_back _ 155 9 5 ⟨wr.heap.size, 0, none⟩ 1 [UInt8.ofNat (48 + j % 10)] Tryz.underlying155 Tryz.underlying5 Tryz.underlying9 (fun i hi => ?_)
        obtain rfl : i = 0 := by simpa using hi
        rw [show (⟨wr.heap.size, 0, none⟩ : Addr).add 0 = ⟨wr.heap.size, 0, none⟩ from rfl, World.cell?_alloc_mark]
        simp
        omega
      have hsz : acc.length ≤ k := by omega
      go_wp2
      go_roundw
      case rel =>
        refine ⟨j / 10, UInt8.ofNat (48 + j % 10) :: acc, by omega, by simp; omega, by go_num, ?_, hd.out.trans (dgs_step j acc h0), hnx.alloc hnx.size _⟩
        exact congrArg Value.string (app1 _ _ (by simp))
      case measure => simp [intOf]; omega
    · obtain rfl : j = 0 := by omega
      go_wp2
      go_ret
      refine ⟨?_, hnx⟩
      have e1 : markS k = ⟨(109 :: acc).toArray⟩ := by unfold markS markB; rw [hd.out]; rfl
      rw [e1]
      exact congrArg (fun x => Ending.returned (.string x)) (app1 _ _ rfl)

/-! ### what marks do to memory -/
/-- a cell keeps its kind; a slice stays what it is -/
def Like (v v' : Value) : Prop := v' = v ∨ (∃ m n, v = .int .i64 m ∧ v' = .int .i64 n) ∨ (∃ s t, v = .string s ∧ v' = .string t)
theorem Like.trans {a b c : Value} (h : Like a b) (h' : Like b c) : Like a c := by
  rcases h with rfl | ⟨m, n, rfl, rfl⟩ | ⟨s, t, rfl, rfl⟩
  · exact h'
  · rcases h' with rfl | ⟨m', n', h1, rfl⟩ | ⟨s', t', h1, rfl⟩
    · exact .inr (.inl ⟨m, n, rfl, rfl⟩)
    · exact .inr (.inl ⟨m, n', rfl, rfl⟩)
    · cases h1
  · rcases h' with rfl | ⟨m', n', h1, rfl⟩ | ⟨s', t', h1, rfl⟩
    · exact .inr (.inr ⟨s, t, rfl, rfl⟩)
    · cases h1
    · exact .inr (.inr ⟨s, t', rfl, rfl⟩)
structure Wr (S : Nat → Prop) (w w' : World) : Prop where
  cell : ∀ b o v, w.cell? ⟨b, o, none⟩ = some v → ∃ v', w'.cell? ⟨b, o, none⟩ = some v' ∧ Like v v'
  off : ∀ b, b < w.heap.size → ¬ S b → w'.heap[b]? = w.heap[b]?
  frozen : ∀ b o, b < w.heap.size → w'.frozen? ⟨b, o, none⟩ = w.frozen? ⟨b, o, none⟩
  os : w'.os = w.os
  tape : w'.tape = w.tape
  output : w'.output = w.output
  size : w.heap.size ≤ w'.heap.size
theorem Wr.below {S : Nat → Prop} {w w' : World} (h : Below w.heap.size w w') : Wr S w w' :=
  ⟨fun b o v hv => ⟨v, (h.cell (p := ⟨b, o, none⟩) (lt_of_cell hv)).trans hv, .inl rfl⟩, fun b hb _ => h.block b hb, fun b o hb => h.frozen (p := ⟨b, o, none⟩) hb, h.os, h.tape, h.output, h.size⟩
theorem Wr.refl (S : Nat → Prop) (w : World) : Wr S w w := .below (Below.refl _ _)
theorem Wr.trans {S : Nat → Prop} {a b c : World} (h : Wr S a b) (k : Wr S b c) : Wr S a c :=
  ⟨fun x o v hv => by
    obtain ⟨v1, h1, l1⟩ := h.cell x o v hv
    obtain ⟨v2, h2, l2⟩ := k.cell x o v1 h1
    exact ⟨v2, h2, l1.trans l2⟩, fun x hx hn => (k.off x (Nat.lt_of_lt_of_le hx h.size) hn).trans (h.off x hx hn), fun x o hx => (k.frozen x o (Nat.lt_of_lt_of_le hx h.size)).trans (h.frozen x o hx), k.os.trans h.os, k.tape.trans h.tape, k.output.trans h.output, Nat.le_trans h.size k.size⟩
theorem Wr.set {S : Nat → Prop} {a w : World} (h : Wr S a w) {b o : Nat} {v u : Value} (hS : S b) (hv : w.cell? ⟨b, o, none⟩ = some v) (hl : Like v u) : Wr S a (w.setCell ⟨b, o, none⟩ u) :=
  h.trans ⟨fun x q y hy => by
    by_cases e : (⟨b, o, none⟩ : Addr) = ⟨x, q, none⟩
    · cases e
      rw [hv] at hy
      cases hy
      exact ⟨u, World.cell?_setCell_same _ _ _ hv, hl⟩
    · exact ⟨y, (World.cell?_setCell_other _ _ _ _ e).trans hy, .inl rfl⟩, fun x hx hn => Below.heap_setCell _ _ _ _ (fun e => hn (e ▸ hS)), fun x q _ => World.frozen?_setCell _ _ _ _, rfl, rfl, rfl, by simp [World.setCell]⟩

/-! ### the shape of what is marked -/
def HStr : Elem ByteArray := fun _ _ f _ => ∃ s, f 0 = .string s
def HFld : Elem Fld := fun _ _ f _ => (∃ s, f 0 = .string s) ∧ ∃ s, f 1 = .string s
def HNd : Elem Nd := fun w S f x => (∃ i, f 0 = .int .i64 i) ∧ Row 1 HStr w S (f 1) x.labels ∧ Row 2 HFld w S (f 2) x.fields
def HEd : Elem Ed := fun w S f x => (∃ i, f 0 = .int .i64 i) ∧ (∃ s, f 1 = .string s) ∧ (∃ i, f 2 = .int .i64 i) ∧ (∃ i, f 3 = .int .i64 i) ∧ Row 2 HFld w S (f 4) x.fields
def Elem.Sub {α : Type} (E H : Elem α) : Prop := ∀ w S f x, E w S f x → H w S f x
def Elem.Wri {α : Type} (H : Elem α) : Prop := ∀ w w' S f f' x, Wr S w w' → (∀ j, Like (f j) (f' j)) → H w S f x → H w' S f' x
theorem Row.sub {α : Type} {sz : Nat} {E H : Elem α} (hE : E.Sub H) {w : World} {S : Nat → Prop} {v : Value} {xs : List α} (h : Row sz E w S v xs) : Row sz H w S v xs := by
  obtain ⟨a, c, hv, hl, h⟩ := h
  refine ⟨a, c, hv, hl, fun k x hx => ?_⟩
  obtain ⟨b, o, f, ha, hS, hc, he⟩ := h k x hx
  exact ⟨b, o, f, ha, hS, hc, hE w S f x he⟩
theorem Row.wr {α : Type} {sz : Nat} {H : Elem α} (hH : H.Wri) {w w' : World} {S : Nat → Prop} {v : Value} {xs : List α} (h : Row sz H w S v xs) (hw : Wr S w w') : Row sz H w' S v xs := by
  obtain ⟨a, c, hv, hl, h⟩ := h
  refine ⟨a, c, hv, hl, fun k x hx => ?_⟩
  obtain ⟨b, o, f, ha, hS, hc, he⟩ := h k x hx
  have hx' : ∀ j, ∃ v', (j < sz → w'.cell? ⟨b, o + k * sz + j, none⟩ = some v') ∧ Like (f j) v' := fun j => by
    by_cases hj : j < sz
    · obtain ⟨v', h1, h2⟩ := hw.cell b _ _ (hc j hj)
      exact ⟨v', fun _ => h1, h2⟩
    · exact ⟨f j, fun h => absurd h hj, .inl rfl⟩
  exact ⟨b, o, fun j => (hx' j).choose, ha, hS, fun j hj => (hx' j).choose_spec.1 hj, hH w w' S f _ x hw (fun j => (hx' j).choose_spec.2) he⟩
theorem like_str {v v' : Value} (h : Like v v') (hs : ∃ s, v = .string s) : ∃ s, v' = .string s := by
  obtain ⟨s, rfl⟩ := hs
  rcases h with rfl | ⟨m, n, h, _⟩ | ⟨_, t, _, rfl⟩
  · exact ⟨_, rfl⟩
  · cases h
  · exact ⟨_, rfl⟩
theorem like_int {v v' : Value} (h : Like v v') (hs : ∃ i, v = .int .i64 i) : ∃ i, v' = .int .i64 i := by
  obtain ⟨s, rfl⟩ := hs
  rcases h with rfl | ⟨m, n, _, rfl⟩ | ⟨_, t, h, _⟩
  · exact ⟨_, rfl⟩
  · exact ⟨_, rfl⟩
  · cases h
theorem Row.like {α : Type} {sz : Nat} {H : Elem α} {w : World} {S : Nat → Prop} {v v' : Value} {xs : List α} (h : Row sz H w S v xs) (hl : Like v v') : v' = v := by
  obtain ⟨a, c, rfl⟩ := h.shape
  rcases hl with rfl | ⟨m, n, h, _⟩ | ⟨_, t, h, _⟩
  · rfl
  · cases h
  · cases h
theorem HStr.wri : HStr.Wri := fun _ _ _ _ _ _ _ hl h => like_str (hl 0) h
theorem HFld.wri : HFld.Wri := fun _ _ _ _ _ _ _ hl h => ⟨like_str (hl 0) h.1, like_str (hl 1) h.2⟩
theorem HNd.wri : HNd.Wri := fun _ _ _ _ _ _ hw hl h => ⟨like_int (hl 0) h.1, by rw [h.2.1.like (hl 1)]; exact h.2.1.wr HStr.wri hw, by rw [h.2.2.like (hl 2)]; exact h.2.2.wr HFld.wri hw⟩
theorem HEd.wri : HEd.Wri := fun _ _ _ _ _ _ hw hl h => ⟨like_int (hl 0) h.1, like_str (hl 1) h.2.1, like_int (hl 2) h.2.2.1, like_int (hl 3) h.2.2.2.1, by rw [h.2.2.2.2.like (hl 4)]; exact h.2.2.2.2.wr HFld.wri hw⟩
theorem HStr.sub : EStr.Sub HStr := fun _ _ _ _ h => ⟨_, h.1⟩
theorem HFld.sub : EFld.Sub HFld := fun _ _ _ _ h => ⟨⟨_, h.1⟩, ⟨_, h.2.1⟩⟩
theorem HNd.sub : ENd.Sub HNd := fun _ _ _ _ h => ⟨⟨_, h.1⟩, h.2.1.sub HStr.sub, h.2.2.sub HFld.sub⟩
theorem HEd.sub : EEd.Sub HEd := fun _ _ _ _ h => ⟨⟨_, h.1⟩, ⟨_, h.2.1⟩, ⟨_, h.2.2.1⟩, ⟨_, h.2.2.2.1⟩, h.2.2.2.2.1.sub HFld.sub⟩
/-- no cell of S is frozen -/
def FreeS (S : Nat → Prop) (w : World) : Prop := ∀ b, S b → b < w.heap.size ∧ ∀ o, w.frozen? ⟨b, o, none⟩ = false
theorem FreeS.on {S : Nat → Prop} {w w' : World} (h : FreeS S w) (hw : Wr S w w') : FreeS S w' := fun b hS => ⟨Nat.lt_of_lt_of_le (h b hS).1 hw.size, fun o => (hw.frozen b o (h b hS).1).trans ((h b hS).2 o)⟩

/-- n marks have been made -/
def MarkedS (S : Nat → Prop) (n : Nat) (w : World) (e : Ending) (w' : World) : Prop := e = .returned (.int .i64 n) ∧ Wr S w w'
theorem like_s (s t : ByteArray) : Like (.string s) (.string t) := .inr (.inr ⟨s, t, rfl, rfl⟩)
theorem like_i (s t : Int) : Like (.int .i64 s) (.int .i64 t) := .inr (.inl ⟨s, t, rfl, rfl⟩)

set_option maxHeartbeats 1000000 in
set_option maxRecDepth 100000 in
theorem markStringS_shape (w : World) (S : Nat → Prop) (v : Value) (ss : List ByteArray) (k0 : Nat) (h : Row 1 HStr w S v ss) (hf : FreeS S w) (hk0 : 0 < k0) (hl : k0 + ss.length < 1000000000) :
    Calls Tryz.prog 85 #[v, .int .i64 k0] w (MarkedS S (k0 + ss.length) w) := by
  obtain ⟨a, c, rfl⟩ := h.shape
  go_enter Tryz.func85, Tryz.ntmps85
  go_wp2
  go_loopw [1, 5] (fun q i wr => ∃ k : Nat, k ≤ ss.length ∧ i = .int .i64 k ∧ q = .int .i64 ((k0 + k : Nat) : Int) ∧ Wr S w wr) (fun _ i _ => ss.length - (intOf i).toNat)
  case atStart => exact ⟨0, by omega, rfl, rfl, Wr.refl _ _⟩
  case round =>
    obtain ⟨k, hk, rfl, rfl, hnx⟩ := hrel
    by_cases hlt : k < ss.length
    · obtain ⟨b, o, f, rfl, hS, hc, s, hs⟩ := h.get hlt
      have d := hc 0 (by decide)
      rw [Nat.mul_one, Nat.add_zero] at d
      have g := (hf.on hnx b hS).2 (o + k)
      obtain ⟨v1, d1, l1⟩ := hnx.cell _ _ _ d
      rw [hs] at l1
      obtain ⟨s1, rfl⟩ := like_str l1 ⟨_, rfl⟩
      clear hc d
      go_wp2_with (go_at_call 87; refine (markText_any (k0 + k) _ (by omega) (by omega)).mono ?_; rintro e w' ⟨rfl, hb'⟩; have e1 := (hb'.cell (p := ⟨b, o + k, none⟩) (lt_of_cell d1)).trans d1; have e2 := (hb'.frozen (p := ⟨b, o + k, none⟩) (lt_of_cell d1)).trans g)
      go_roundw
      case rel => exact ⟨k + 1, by omega, by go_num, by push_cast; rw [Int.add_assoc], (hnx.trans (Wr.below hb')).set hS e1 (like_s _ _)⟩
      case measure => simp [intOf]; omega
    · obtain rfl : k = ss.length := by omega
      go_wp2
      go_ret
      exact ⟨rfl, hnx⟩

/-- a cell of S, some steps on -/
theorem cell_on {S : Nat → Prop} {w w' : World} {b o : Nat} {v : Value} (hf : FreeS S w) (hS : S b) (d : w.cell? ⟨b, o, none⟩ = some v) (hw : Wr S w w') : ∃ v', w'.cell? ⟨b, o, none⟩ = some v' ∧ Like v v' ∧ w'.frozen? ⟨b, o, none⟩ = false := by
  obtain ⟨v', h1, h2⟩ := hw.cell _ _ _ d
  exact ⟨v', h1, h2, (hf.on hw b hS).2 o⟩
theorem cell_str {S : Nat → Prop} {w w' : World} {b o : Nat} {v : Value} (hf : FreeS S w) (hS : S b) (d : w.cell? ⟨b, o, none⟩ = some v) (hv : ∃ s, v = .string s) (hw : Wr S w w') : ∃ s, w'.cell? ⟨b, o, none⟩ = some (.string s) ∧ w'.frozen? ⟨b, o, none⟩ = false := by
  obtain ⟨v', h1, h2⟩ := hw.cell _ _ _ d
  obtain ⟨s, rfl⟩ := like_str h2 hv
  exact ⟨s, h1, (hf.on hw b hS).2 o⟩
theorem cell_int {S : Nat → Prop} {w w' : World} {b o : Nat} {v : Value} (hf : FreeS S w) (hS : S b) (d : w.cell? ⟨b, o, none⟩ = some v) (hv : ∃ s, v = .int .i64 s) (hw : Wr S w w') : ∃ s, w'.cell? ⟨b, o, none⟩ = some (.int .i64 s) ∧ w'.frozen? ⟨b, o, none⟩ = false := by
  obtain ⟨v', h1, h2⟩ := hw.cell _ _ _ d
  obtain ⟨s, rfl⟩ := like_int h2 hv
  exact ⟨s, h1, (hf.on hw b hS).2 o⟩
theorem cell_sl {α : Type} {sz : Nat} {H : Elem α} {S S' : Nat → Prop} {w w' : World} {b o : Nat} {v : Value} {xs : List α} (d : w.cell? ⟨b, o, none⟩ = some v) (hv : Row sz H w S' v xs) (hw : Wr S w w') : w'.cell? ⟨b, o, none⟩ = some v := by
  obtain ⟨v', h1, h2⟩ := hw.cell _ _ _ d
  rw [hv.like h2] at h1
  exact h1

set_option maxHeartbeats 1000000 in
set_option maxRecDepth 100000 in
theorem markFieldS_shape (w : World) (S : Nat → Prop) (v : Value) (ss : List Fld) (k0 : Nat) (h : Row 2 HFld w S v ss) (hf : FreeS S w) (hk0 : 0 < k0) (hl : k0 + 2 * ss.length < 1000000000) :
    Calls Tryz.prog 86 #[v, .int .i64 k0] w (MarkedS S (k0 + 2 * ss.length) w) := by
  obtain ⟨a, c, rfl⟩ := h.shape
  go_enter Tryz.func86, Tryz.ntmps86
  go_wp2
  go_loopw [1, 5] (fun q i wr => ∃ k : Nat, k ≤ ss.length ∧ i = .int .i64 k ∧ q = .int .i64 ((k0 + 2 * k : Nat) : Int) ∧ Wr S w wr) (fun _ i _ => ss.length - (intOf i).toNat)
  case atStart => exact ⟨0, by omega, rfl, rfl, Wr.refl _ _⟩
  case round =>
    obtain ⟨k, hk, rfl, rfl, hnx⟩ := hrel
    by_cases hlt : k < ss.length
    · obtain ⟨b, o, f, rfl, hS, hc, hs0, hs1⟩ := h.get hlt
      have d0 := hc 0 (by decide)
      have d1 := hc 1 (by decide)
      rw [Nat.add_zero] at d0
      clear hc
      obtain ⟨m, hm⟩ : ∃ m, m = k0 + 2 * k := ⟨_, rfl⟩
      rw [← hm]
      have hm1 : m + 1 < 1000000000 := by omega
      have hm0 : 0 < m := by omega
      have HM := Lib.hid hm
      clear hm
      have tok : True := trivial
      go_wp2_with (first
        | (go_at_call 87; have _t := tok; refine (markText_any m _ hm0 (by omega)).mono ?_; rintro e w1 ⟨rfl, hb1⟩; have W1 := hnx.trans (Wr.below hb1); obtain ⟨t0, e0, g0⟩ := cell_str hf hS d0 hs0 W1; have W2 := W1.set hS e0 (like_s t0 (markS m)); clear tok)
        | (go_at_call 87; refine (markText_any (m + 1) _ (by omega) hm1).mono ?_; rintro e w2 ⟨rfl, hb2⟩; have W3 := W2.trans (Wr.below hb2); obtain ⟨t1, e1, g1⟩ := cell_str hf hS d1 hs1 W3; have W4 := W3.set hS e1 (like_s t1 (markS (m + 1)))))
      go_roundw
      case rel => exact ⟨k + 1, by omega, by go_num, by rw [show k0 + 2 * (k + 1) = m + 1 + 1 by rw [HM.out]; omega]; push_cast; rfl, W4⟩
      case measure => simp [intOf]; omega
    · obtain rfl : k = ss.length := by omega
      go_wp2
      go_ret
      exact ⟨rfl, hnx⟩

def cNd (x : Nd) : Nat := 1 + x.labels.length + 2 * x.fields.length
def cEd (x : Ed) : Nat := 4 + 2 * x.fields.length
def cGr (g : Gr) : Nat := (g.nodes.map cNd).sum + (g.edges.map cEd).sum
/-- how many marks k of the elements take -/
def cT {α : Type} (c : α → Nat) (l : List α) (k : Nat) : Nat := ((l.take k).map c).sum
theorem cT_succ {α : Type} (c : α → Nat) (l : List α) (k : Nat) (h : k < l.length) : cT c l (k + 1) = cT c l k + c l[k] := by
  unfold cT
  rw [List.take_succ_eq_append_getElem h]
  simp only [List.map_append, List.map_cons, List.map_nil, List.sum_append, List.sum_cons, List.sum_nil]
  omega
theorem cT_le {α : Type} (c : α → Nat) (l : List α) (k : Nat) : cT c l k ≤ (l.map c).sum := by
  unfold cT
  rw [List.map_take]
  exact sum_take_le _ _
theorem cT_zero {α : Type} (c : α → Nat) (l : List α) : cT c l 0 = 0 := rfl
theorem cT_all {α : Type} (c : α → Nat) (l : List α) : cT c l l.length = (l.map c).sum := by unfold cT; rw [List.take_length]

set_option maxHeartbeats 1000000 in
set_option maxRecDepth 100000 in
theorem markNodeS_shape (w : World) (S : Nat → Prop) (v : Value) (ss : List Nd) (k0 : Nat) (h : Row 3 HNd w S v ss) (hf : FreeS S w) (hk0 : 0 < k0) (hl : k0 + (ss.map cNd).sum < 1000000000) :
    Calls Tryz.prog 53 #[v, .int .i64 k0] w (MarkedS S (k0 + (ss.map cNd).sum) w) := by
  obtain ⟨a, c, rfl⟩ := h.shape
  have hlen := h.len
  go_enter Tryz.func53, Tryz.ntmps53
  go_wp2
  go_loopw [1, 5] (fun q i wr => ∃ k : Nat, k ≤ ss.length ∧ i = .int .i64 k ∧ q = .int .i64 ((k0 + cT cNd ss k : Nat) : Int) ∧ Wr S w wr) (fun _ i _ => ss.length - (intOf i).toNat)
  case atStart => exact ⟨0, by omega, rfl, rfl, Wr.refl _ _⟩
  case round =>
    obtain ⟨k, hk, rfl, rfl, hnx⟩ := hrel
    by_cases hlt : k < ss.length
    · obtain ⟨b, o, f, rfl, hS, hc, hs0, r1, r2⟩ := h.get hlt
      have d0 := hc 0 (by decide)
      have d1 := hc 1 (by decide)
      have d2 := hc 2 (by decide)
      rw [Nat.add_zero] at d0
      clear hc
      have HC := cT_succ cNd ss k hlt
      have hle := cT_le cNd ss (k + 1)
      obtain ⟨m, hm⟩ : ∃ m, m = k0 + cT cNd ss k := ⟨_, rfl⟩
      rw [← hm]
      have hc' : cNd ss[k] = 1 + ss[k].labels.length + 2 * ss[k].fields.length := rfl
      have hm0 : 0 < m := by omega
      have hm1 : m + 1 + ss[k].labels.length + 2 * ss[k].fields.length < 1000000000 := by omega
      have HM : Hid (k0 + cT cNd ss (k + 1) = m + 1 + ss[k].labels.length + 2 * ss[k].fields.length) := Lib.hid (by omega)
      clear hm HC hle hc'
      obtain ⟨t0, e0, g0⟩ := cell_int hf hS d0 hs0 hnx
      have W1 := hnx.set hS e0 (like_i t0 m)
      obtain ⟨a1, c1, q1⟩ := r1.shape
      obtain ⟨a2, c2, q2⟩ := r2.shape
      have e1 := cell_sl d1 r1 W1
      rw [q1] at e1 r1
      have hf1 : FreeS S (wr.setCell ⟨b, o + k * 3, none⟩ (.int .i64 m)) := hf.on W1
      go_wp2_with (first
        | (go_at_call 85; refine (markStringS_shape _ S _ ss[k].labels (m + 1) (r1.wr HStr.wri W1) hf1 (by omega) (by omega)).mono ?_; rintro e w1 ⟨rfl, hb1⟩; have W2 := W1.trans hb1; have e2 := cell_sl d2 r2 W2; rw [q2] at e2; have hf2 := hf.on W2)
        | (go_at_call 86; refine (markFieldS_shape _ S _ ss[k].fields (m + 1 + ss[k].labels.length) (q2 ▸ r2.wr HFld.wri W2) hf2 (by omega) (by omega)).mono ?_; rintro e w2 ⟨rfl, hb2⟩; have W4 := W2.trans hb2))
      go_roundw
      case rel => exact ⟨k + 1, by omega, by go_num, by rw [HM.out]; push_cast; rfl, W4⟩
      case measure => simp [intOf]; omega
    · obtain rfl : k = ss.length := by omega
      go_wp2
      go_ret
      exact ⟨by rw [← cT_all]; rfl, hnx⟩

set_option maxHeartbeats 2000000 in
set_option maxRecDepth 100000 in
theorem markEdgeS_shape (w : World) (S : Nat → Prop) (v : Value) (ss : List Ed) (k0 : Nat) (h : Row 5 HEd w S v ss) (hf : FreeS S w) (hk0 : 0 < k0) (hl : k0 + (ss.map cEd).sum < 1000000000) :
    Calls Tryz.prog 54 #[v, .int .i64 k0] w (MarkedS S (k0 + (ss.map cEd).sum) w) := by
  obtain ⟨a, c, rfl⟩ := h.shape
  have hlen := h.len
  go_enter Tryz.func54, Tryz.ntmps54
  go_wp2
  go_loopw [1, 5] (fun q i wr => ∃ k : Nat, k ≤ ss.length ∧ i = .int .i64 k ∧ q = .int .i64 ((k0 + cT cEd ss k : Nat) : Int) ∧ Wr S w wr) (fun _ i _ => ss.length - (intOf i).toNat)
  case atStart => exact ⟨0, by omega, rfl, rfl, Wr.refl _ _⟩
  case round =>
    obtain ⟨k, hk, rfl, rfl, hnx⟩ := hrel
    by_cases hlt : k < ss.length
    · obtain ⟨b, o, f, rfl, hS, hc, hs0, hs1, hs2, hs3, r2⟩ := h.get hlt
      have d0 := hc 0 (by decide)
      have d1 := hc 1 (by decide)
      have d2 := hc 2 (by decide)
      have d3 := hc 3 (by decide)
      have d4 := hc 4 (by decide)
      rw [Nat.add_zero] at d0
      clear hc
      have HC := cT_succ cEd ss k hlt
      have hle := cT_le cEd ss (k + 1)
      obtain ⟨m, hm⟩ : ∃ m, m = k0 + cT cEd ss k := ⟨_, rfl⟩
      rw [← hm]
      have hc' : cEd ss[k] = 4 + 2 * ss[k].fields.length := rfl
      have hm0 : 0 < m := by omega
      have hm1 : m + 4 + 2 * ss[k].fields.length < 1000000000 := by omega
      have HM : Hid (k0 + cT cEd ss (k + 1) = m + 4 + 2 * ss[k].fields.length) := Lib.hid (by omega)
      clear hm HC hle hc'
      obtain ⟨t0, e0, g0⟩ := cell_int hf hS d0 hs0 hnx
      have W1 := hnx.set hS e0 (like_i t0 m)
      obtain ⟨a2, c2, q2⟩ := r2.shape
      go_wp2_with (first
        | (go_at_call 87; refine (markText_any (m + 1) _ (by omega) (by omega)).mono ?_; rintro e w1 ⟨rfl, hb1⟩; have W2 := W1.trans (Wr.below hb1); obtain ⟨t1, e1, g1⟩ := cell_str hf hS d1 hs1 W2; have W3 := W2.set hS e1 (like_s t1 (markS (m + 1))); obtain ⟨t2, e2, g2⟩ := cell_int hf hS d2 hs2 W3; have W4 := W3.set hS e2 (like_i t2 ((m : Int) + 1 + 1)); obtain ⟨t3, e3, g3⟩ := cell_int hf hS d3 hs3 W4; have W5 := W4.set hS e3 (like_i t3 ((m : Int) + 1 + 1 + 1)); have e4 := cell_sl d4 r2 W5; rw [q2] at e4)
        | (go_at_call 86; refine (markFieldS_shape _ S _ ss[k].fields (m + 1 + 1 + 1 + 1) (q2 ▸ r2.wr HFld.wri W5) (hf.on W5) (by omega) (by omega)).mono ?_; rintro e w2 ⟨rfl, hb2⟩; have W6 := W5.trans hb2))
      go_roundw
      case rel => exact ⟨k + 1, by omega, by go_num, by rw [HM.out]; push_cast; rfl, W6⟩
      case measure => simp [intOf]; omega
    · obtain rfl : k = ss.length := by omega
      go_wp2
      go_ret
      exact ⟨by rw [← cT_all]; rfl, hnx⟩

set_option maxHeartbeats 1000000 in
set_option maxRecDepth 100000 in
theorem markGraph_shape (w : World) (S : Nat → Prop) (v : Value) (g : Gr) (h : RGr w S v g) (hf : FreeS S w) (hl : 1 + cGr g < 1000000000) :
    Calls Tryz.prog 18 #[v, .int .i64 1] w (MarkedS S (1 + cGr g) w) := by
  obtain ⟨v1, v2, rfl, h1, h2⟩ := h
  obtain ⟨a1, c1, rfl⟩ := h1.shape
  obtain ⟨a2, c2, rfl⟩ := h2.shape
  have hb0 := ((Below.refl _ w).alloc (Nat.le_refl _) (.cells #[.slice a1 g.nodes.length c1, .slice a2 g.edges.length c2] 36))
  have hl1 : 1 + (g.nodes.map cNd).sum < 1000000000 := by unfold cGr at hl; omega
  have hl2 : 1 + (g.nodes.map cNd).sum + (g.edges.map cEd).sum < 1000000000 := by unfold cGr at hl; omega
  have W0 : Wr S w _ := Wr.below hb0
  unfold cGr
  go_enter Tryz.func18, Tryz.ntmps18
  go_wp2_with (first
    | (go_at_call 53; refine (markNodeS_shape _ S _ g.nodes 1 ((h1.below ENd.kept hb0).sub HNd.sub) (hf.on W0) (by omega) hl1).mono ?_; rintro e w1 ⟨rfl, hb1⟩; have W1 := W0.trans hb1; have c1 := hb1.off w.heap.size (by simp) (fun hS => absurd (hf _ hS).1 (by omega)); have e1 := World.cell?_of_block (a := ⟨w.heap.size, 1, none⟩) c1)
    | (go_at_call 54; refine (markEdgeS_shape _ S _ g.edges _ ((h2.sub HEd.sub).wr HEd.wri W1) (hf.on W1) (by omega) hl2).mono ?_; rintro e w2 ⟨rfl, hb2⟩; have W2 := W1.trans hb2))
  go_ret
  exact ⟨by rw [← Nat.add_assoc]; rfl, W2⟩
end Go.Proofs.YtllhimeffkefiaaGreatDoor
/- Rows of a result's own: how they are told, and the walks of the laws' comparison, marks and second look over parts. Condition: fewer than 10^6 parts. -/
set_option linter.unusedVariables false
namespace Go.Proofs.YtllhimeffkefiaaGreatDoor
open Go.RowKit

structure Pt where
  node : Int
  num : Int
def EPt : Elem Pt := fun _ _ f x => f 0 = .int .i64 x.node ∧ f 1 = .int .i64 x.num
abbrev RPt := Row 2 EPt
theorem EPt.kept : EPt.Kept := fun _ _ _ _ _ _ h => h
theorem EPt.mono : EPt.Mono := fun _ _ _ _ _ _ h => h
theorem RPt.at {w : World} {S : Nat → Prop} {a : Option Addr} {n c : Nat} {xs : List Pt} (h : RPt w S (.slice a n c) xs) {k : Nat} (hk : k < xs.length) :
    ∃ b o, a = some ⟨b, o, none⟩ ∧ S b ∧ w.cell? ⟨b, o + k * 2, none⟩ = some (.int .i64 xs[k].node) ∧ w.cell? ⟨b, o + k * 2 + 1, none⟩ = some (.int .i64 xs[k].num) := by
  obtain ⟨b, o, f, ha, hS, hc, h0, h1⟩ := h.get hk
  have c0 := hc 0 (by decide)
  have c1 := hc 1 (by decide)
  rw [Nat.add_zero, h0] at c0
  rw [h1] at c1
  exact ⟨b, o, ha, hS, c0, c1⟩

/-- a row of n elements that is the holder's own: nil, or the begin of a block from B on, not frozen -/
def Own (sz : Nat) (w : World) (B : Nat) (v : Value) (n : Nat) : Prop :=
  ∃ a c, v = .slice a n c ∧ (n = 0 ∨ ∃ g, a = some ⟨g, 0, none⟩ ∧ B ≤ g ∧ g < w.heap.size ∧ (∀ i, i < n * sz → ∃ x, w.cell? ⟨g, i, none⟩ = some x) ∧ ∀ i, w.frozen? ⟨g, i, none⟩ = false)
theorem Own.kept {sz : Nat} {w w' : World} {B : Nat} {v : Value} {n : Nat} (h : Own sz w B v n) (hz : w.heap.size ≤ w'.heap.size) (hk : ∀ b, B ≤ b → b < w.heap.size → w'.heap[b]? = w.heap[b]?) : Own sz w' B v n := by
  obtain ⟨a, c, hv, h⟩ := h
  refine ⟨a, c, hv, h.imp_right fun ⟨g, ha, hB, hg, hc, hf⟩ => ⟨g, ha, hB, by omega, fun i hi => ?_, fun i => (World.frozen?_of_block (a := ⟨g, i, none⟩) (hk g hB hg)).trans (hf i)⟩⟩
  obtain ⟨x, hx⟩ := hc i hi
  exact ⟨x, (World.cell?_of_block (a := ⟨g, i, none⟩) (hk g hB hg)).trans hx⟩
/-- the numbers from k on lie in a row -/
def Nums (sz : Nat) (w : World) (v : Value) (n : Nat) : Prop := ∃ a c, v = .slice a n c ∧ (n = 0 ∨ ∃ g, a = some ⟨g, 0, none⟩ ∧ ∀ i, i < n * sz → w.cell? ⟨g, i, none⟩ = some (.int .i64 ((1 + i : Nat) : Int)))
theorem Nums.kept {sz : Nat} {w w' : World} {v : Value} {n : Nat} (h : Nums sz w v n) (hk : ∀ b, b < w.heap.size → w'.heap[b]? = w.heap[b]?) : Nums sz w' v n := by
  obtain ⟨a, c, hv, h⟩ := h
  exact ⟨a, c, hv, h.imp_right fun ⟨g, ha, hc⟩ => ⟨g, ha, fun i hi => cell_kept (hk g) (hc i hi)⟩⟩
/-- only the row that v stands for has turned -/
structure But (v : Value) (w w' : World) : Prop where
  os : w'.os = w.os
  tape : w'.tape = w.tape
  output : w'.output = w.output
  size : w.heap.size ≤ w'.heap.size
  block : ∀ b, b < w.heap.size → v.ownBlock ≠ some b → w'.heap[b]? = w.heap[b]?
theorem But.below {v : Value} {w w' : World} {B : Nat} (h : But v w w') (hv : ∀ b, v.ownBlock = some b → B ≤ b) (hB : B ≤ w.heap.size) : Below B w w' :=
  ⟨h.os, h.tape, h.output, h.size, fun k hk => h.block k (by omega) (fun e => by have := hv k e; omega)⟩
/-- what holds of the row on the way -/
def Nums' (sz : Nat) (w : World) (g k n : Nat) : Prop := (∀ i, i < k * sz → w.cell? ⟨g, i, none⟩ = some (.int .i64 ((1 + i : Nat) : Int))) ∧ (∀ i, i < n * sz → ∃ x, w.cell? ⟨g, i, none⟩ = some x) ∧ ∀ i, w.frozen? ⟨g, i, none⟩ = false
theorem Nums'.step {sz : Nat} {w : World} {g k n : Nat} (h : Nums' sz w g k n) (hk : k < n) {us : List Value} (hu : us.length = sz) (hv : ∀ j, j < sz → us.getD j undef = .int .i64 ((1 + (k * sz + j) : Nat) : Int)) : Nums' sz (sets w g (k * sz) us) g (k + 1) n := by
  obtain ⟨h1, h2, h3⟩ := h
  have room : (k + 1) * sz ≤ n * sz := Nat.mul_le_mul_right sz hk
  have e : (k + 1) * sz = k * sz + sz := Nat.succ_mul k sz
  have hat := sets_at g us (k * sz) w (fun j hj => h2 _ (by omega))
  refine ⟨fun i hi => ?_, fun i hi => ?_, fun i => (sets_frozen g us _ w _).trans (h3 i)⟩
  · by_cases hi2 : i < k * sz
    · rw [sets_other g us _ w g i (by omega)]; exact h1 i hi2
    · have := hat (i - k * sz) (by omega)
      rw [hv _ (by omega), show k * sz + (i - k * sz) = i by omega] at this
      exact this
  · by_cases hi2 : i < k * sz ∨ k * sz + us.length ≤ i
    · rw [sets_other g us _ w g i (by omega)]; exact h2 i hi
    · have := hat (i - k * sz) (by omega)
      rw [show k * sz + (i - k * sz) = i by omega] at this
      exact ⟨_, this⟩
theorem But.sets {v : Value} {w wr : World} (h : But v w wr) {g : Nat} (hg : v.ownBlock = some g) (o : Nat) (us : List Value) : But v w (sets wr g o us) := by
  have hb := sets_below (B := 0) (g := g) (a := wr) (Nat.zero_le _) us o wr (Below.refl _ _)
  exact ⟨hb.os.trans h.os, hb.tape.trans h.tape, hb.output.trans h.output, Nat.le_trans h.size hb.size, fun b hlt hne => (sets_heap g us o wr b (fun e => hne (by rw [hg, e]))).trans (h.block b hlt hne)⟩
def NumsMade (sz : Nat) (v : Value) (n m : Nat) (w : World) (e : Ending) (w' : World) : Prop := e = .returned (.int .i64 m) ∧ Nums sz w' v n ∧ But v w w'
def NumsSeen (m : Nat) (w : World) (e : Ending) (w' : World) : Prop := e = .returned (.int .i64 m) ∧ w' = w

set_option maxHeartbeats 1000000 in
set_option maxRecDepth 100000 in
theorem eqPart_any (w : World) (x : Pt) : Calls Tryz.prog 80 #[.agg #[.int .i64 x.node, .int .i64 x.num], .agg #[.int .i64 x.node, .int .i64 x.num]] w (Tru w) := by
  go_enter Tryz.func80, Tryz.ntmps80
  go_wp2
  go_ret
  exact ⟨rfl, ((Below.refl _ w).alloc (Nat.le_refl _) _).alloc (by simp) _⟩

set_option maxHeartbeats 1000000 in
set_option maxRecDepth 100000 in
theorem eqPartS_any (w : World) (S S' : Nat → Prop) (v v' : Value) (ss : List Pt) (h : RPt w S v ss) (h' : RPt w S' v' ss) : Calls Tryz.prog 46 #[v, v'] w (Tru w) := by
  obtain ⟨a, c, rfl⟩ := h.shape
  obtain ⟨a', c', rfl⟩ := h'.shape
  have hl := h.len
  go_enter Tryz.func46, Tryz.ntmps46
  go_wp2
  go_loopw [5] (fun i wr => ∃ k : Nat, k ≤ ss.length ∧ i = .int .i64 k ∧ Below w.heap.size w wr) (fun i _ => ss.length - (intOf i).toNat)
  case atStart => exact ⟨0, by omega, rfl, Below.refl _ _⟩
  case round =>
    obtain ⟨k, hk, rfl, hnx⟩ := hrel
    by_cases hlt : k < ss.length
    · obtain ⟨b, o, rfl, -, d0, d1⟩ := RPt.at (h.below EPt.kept hnx) hlt
      obtain ⟨b', o', rfl, -, d0', d1'⟩ := RPt.at (h'.below EPt.kept hnx) hlt
      have hb := lt_of_cell d0
      have hb' := lt_of_cell d0'
      go_wp2_with fail
      go_region_held3 (fun w' => Below wr.heap.size wr w' ∧ ∀ b o, b < wr.heap.size → w'.cell? ⟨b, o, none⟩ = wr.cell? ⟨b, o, none⟩) (first | exact keep0 _ | exact keep1 ‹_› ‹_› | go_keep)
        (first | (go_at_call 80; refine (eqPart_any _ ss[k]).mono ?_; rintro e w1 ⟨rfl, hb1⟩))
      rename_i hS
      go_wp2
      go_roundw
      case rel => exact ⟨k + 1, by omega, by go_num, hnx.trans (hS.1.mono hnx.size)⟩
      case measure => simp [intOf]; omega
    · obtain rfl : k = ss.length := by omega
      go_wp2
      go_ret
      exact ⟨rfl, hnx⟩

end Go.Proofs.YtllhimeffkefiaaGreatDoor
/- A region that draws its order, ended by one forced row of operations: its head walked quietly. No condition. -/
namespace Go.Proofs.YtllhimeffkefiaaGreatDoor

theorem still_of_quiet {P : Program} {ops : Array Oper} {w : World} {Q : Act → Prop} : ∀ (l : List Oper) (a : Act), wpQuiet P ops (fun x => x = w) Q l a → wpStill P ops w Q l a
  | [], a, h => h
  | o :: rest, a, h => by
    simp only [wpQuiet] at h
    simp only [wpStill]
    split at h
    · rename_i hw
      rw [if_pos hw]
      obtain ⟨v, h1, h2⟩ := h
      have h3 := h1 w rfl
      have h4 := still_of_quiet rest _ h2
      unfold Oper.still
      unfold Oper.quietAt at h3
      generalize (execOp a.eval o).run P w = r at *
      cases r with
      | ok n w' =>
        cases n <;> simp only [Oper.quietUpon] at h3 <;> simp only [Oper.stillUpon]
        case value u =>
          obtain ⟨e1, e2⟩ := h3
          exact ⟨e1, e2 ▸ h4⟩
        case skip =>
          obtain ⟨e1, e2⟩ := h3
          exact ⟨e1, e2 ▸ h4⟩
        case enter f args =>
          obtain ⟨e1, e2⟩ := h3
          exact ⟨e1, v, e2, h4⟩
      | _ => simp [Oper.quietUpon] at h3
    · rename_i hw
      rw [if_neg hw]
      exact still_of_quiet rest _ h
theorem tail_quiet {P : Program} {id : Nat} {Q : Exit → Act → World → Prop} {a : Act} {w : World} {l : List Oper} (n : Nat) (hm : P.follows .mixedOrders = true) (hB : Region.lexTailB .any l.toArray n = true)
    (h : ∀ w', w' = w.drew → wpQuiet P l.toArray (fun x => x = w') (fun a' => wpList P l.toArray Q (l.drop n) a' w') (l.take n) a) : (Code.region id l.toArray true).wp P Q a w :=
  wp_region_still_tail n hm hB (still_of_quiet _ _ (h _ rfl))
/-- a world that has grown out of W -/
structure Ext (W : World) where
  w : World
  below : RowKit.Below W.heap.size W w
instance (W : World) : Nonempty (Ext W) := ⟨⟨W, RowKit.Below.refl _ W⟩⟩
theorem Ext.cell {W : World} {b o : Nat} {v : Value} (h : W.cell? ⟨b, o, none⟩ = some v) (u : Ext W) : u.w.cell? ⟨b, o, none⟩ = some v :=
  (World.cell?_of_block (a := ⟨b, o, none⟩) (u.below.block b (World.block_lt_of_cell? W ⟨b, o, none⟩ h))).trans h
/-- a region that draws, whose calls make memory and leave the old as it was: one walk, in the order of the text -/
theorem region_ext {P : Program} {id : Nat} {Q : Exit → Act → World → Prop} {a : Act} {w : World} {l : List Oper} (hm : P.follows .mixedOrders = true) (hB : Region.lexB .any l.toArray = true)
    (h : wpQuiet P l.toArray (fun w' => ∃ u : Ext w, w' = u.w) (fun a' => ∀ w', RowKit.Below w.heap.size w w' → Q .normal a' w') l a) : (Code.region id l.toArray true).wp P Q a w := by
  have e : (fun a' => ∀ w', RowKit.Below w.heap.size w w' → Q .normal a' w') = (fun a' => ∀ w', (∃ u : Ext w, w' = u.w) → Q .normal a' w') :=
    funext fun a' => propext ⟨fun h w' ⟨u, hu⟩ => hu ▸ h _ u.below, fun h w' hb => h w' ⟨⟨w', hb⟩, rfl⟩⟩
  rw [e] at h
  exact wp_region_quiet (C := fun w' => ∃ u : Ext w, w' = u.w) hm hB ⟨⟨w.drew, rfl, rfl, rfl, Nat.le_refl _, fun _ _ => rfl⟩, rfl⟩ (by simpa using h)
end Go.Proofs.YtllhimeffkefiaaGreatDoor
