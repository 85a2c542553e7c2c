/- The walks of the laws' helpers over a slice of texts: markText, eqStringS, markStringS, heldStringS; no condition beyond what each theorem states. -/
import Derived.Test.YtgahdkhondnpmaaGreatDoorProg
import Derived.WalkKit
import Derived.KernelRfl
import Derived.Below
import Derived.Laws.IdiomStrings
import Derived.Sort.EncStr
import Derived.Deep.QuietTactic
import Derived.BigQuiet
import Derived.Deep.RegionHeld3
import Derived.Lib.Hide
namespace Go.Proofs.YtgahdkhondnpmaaGreatDoor
open Go.RowKit

/-- the decimal digits of a number ahead of a text -/
def dgs : Nat → Nat → List UInt8 → List UInt8
  | 0, _, acc => acc
  | f + 1, k, acc => if k = 0 then acc else dgs f (k / 10) (UInt8.ofNat (48 + k % 10) :: acc)
def markB (k : Nat) : List UInt8 := 109 :: dgs k k []

theorem dgs_zero (f : Nat) (acc : List UInt8) : dgs f 0 acc = acc := by cases f <;> simp [dgs]
theorem dgs_fuel : ∀ (f g k : Nat) (acc : List UInt8), k ≤ f → k ≤ g → dgs f k acc = dgs g k acc
  | 0, g, k, acc, hf, hg => by obtain rfl : k = 0 := by omega
                               simp [dgs_zero]
  | f + 1, 0, k, acc, hf, hg => by obtain rfl : k = 0 := by omega
                                   simp [dgs_zero]
  | f + 1, g + 1, k, acc, hf, hg => by
    by_cases h : k = 0
    · simp [dgs, h]
    · simp only [dgs, if_neg h]
      exact dgs_fuel f g (k / 10) _ (by omega) (by omega)
theorem dgs_step (k : Nat) (acc : List UInt8) (h : 0 < k) : dgs k k acc = dgs (k / 10) (k / 10) (UInt8.ofNat (48 + k % 10) :: acc) := by
  obtain ⟨j, rfl⟩ : ∃ j, k = j + 1 := ⟨k - 1, by omega⟩
  conv => lhs; rw [dgs]
  rw [if_neg (by omega)]
  exact dgs_fuel _ _ _ _ (by omega) (by omega)

theorem app1 (d d' : UInt8) {acc : List UInt8} (h : d = d') : (⟨#[d]⟩ ++ ⟨acc.toArray⟩ : ByteArray) = ⟨(d' :: acc).toArray⟩ := by
  subst h
  apply ByteArray.ext
  simp
def Marked (s : List UInt8) (w : World) (e : Ending) (w' : World) : Prop := e = .returned (encStr s) ∧ Below w.heap.size w w'

set_option maxHeartbeats 1000000 in
set_option maxRecDepth 100000 in
theorem markText_any (k : Nat) (w : World) (hk : 0 < k) (hk2 : k < 1000000000) : Calls Tryz.prog 11 #[.int .i64 k] w (Marked (markB k) w) := by
  go_enter Tryz.func11, Tryz.ntmps11
  go_wp2
  go_loopw [0, 3] (fun i t wr => ∃ (j : Nat) (acc : List UInt8), j < 1000000000 ∧ acc.length + j ≤ k ∧ i = .int .i64 j ∧ t = .string ⟨acc.toArray⟩ ∧ Hid (dgs k k [] = dgs j j acc) ∧ Below w.heap.size w wr)
    (fun i _ _ => (intOf i).toNat)
  case atStart => exact ⟨k, [], hk2, by simp, rfl, rfl, rfl, Below.refl _ _⟩
  case round =>
    obtain ⟨j, acc, hj, hl, rfl, rfl, hd, hnx⟩ := hrel
    by_cases h0 : 0 < j
    · have hcv : (convert 71 9 (.slice (some ⟨wr.heap.size, 0, none⟩) 1 1)).run Tryz.prog (wr.alloc (.cells #[.int .u8 (48 + (j : Int) % 10)] 5)) = .ok (.string ⟨#[UInt8.ofNat (48 + j % 10)]⟩) (wr.alloc (.cells #[.int .u8 (48 + (j : Int) % 10)] 5)) := by
        refine run_convert_bytes_back _ 71 9 5 ⟨wr.heap.size, 0, none⟩ 1 [UInt8.ofNat (48 + j % 10)] Tryz.underlying71 Tryz.underlying5 Tryz.underlying9 (fun i hi => ?_)
        obtain rfl : i = 0 := by simpa using hi
        rw [show (⟨wr.heap.size, 0, none⟩ : Addr).add 0 = ⟨wr.heap.size, 0, none⟩ from rfl, World.cell?_alloc_mark]
        simp
        omega
      have hsz : acc.length ≤ k := by omega
      go_wp2
      go_roundw
      case rel =>
        refine ⟨j / 10, UInt8.ofNat (48 + j % 10) :: acc, by omega, by simp; omega, by go_num, ?_, hd.out.trans (dgs_step j acc h0), hnx.alloc hnx.size _⟩
        exact congrArg Value.string (app1 _ _ (by simp))
      case measure => simp [intOf]; omega
    · obtain rfl : j = 0 := by omega
      go_wp2
      go_ret
      refine ⟨?_, hnx⟩
      have e1 : markB k = 109 :: acc := by unfold markB; rw [hd.out]; rfl
      rw [e1]
      exact congrArg (fun x => Ending.returned (.string x)) (app1 _ _ rfl)

/-- a row of texts that lies from the begin of block b on -/
def Texts (w : World) (b : Nat) (ss : List (List UInt8)) : Prop := ∀ k, k < ss.length → w.cell? ⟨b, k, none⟩ = some (encStr (ss.getD k []))
def SameB (w : World) (e : Ending) (w' : World) : Prop := e = .returned (.bool true) ∧ ∃ n, w' = w.drewN n

set_option maxHeartbeats 1000000 in
set_option maxRecDepth 100000 in
theorem eqStringS_any (ss : List (List UInt8)) (b1 b2 c1 c2 : Nat) (w : World) (h1 : Texts w b1 ss) (h2 : Texts w b2 ss) (hl : ss.length ≤ 1000000000) :
    Calls Tryz.prog 6 #[.slice (some ⟨b1, 0, none⟩) ss.length c1, .slice (some ⟨b2, 0, none⟩) ss.length c2] w (SameB w) := by
  go_enter Tryz.func6, Tryz.ntmps6
  go_wp2
  go_loopw [5] (fun i wr => ∃ k n : Nat, k ≤ ss.length ∧ i = .int .i64 k ∧ wr = w.drewN n) (fun i _ => ss.length - (intOf i).toNat)
  case atStart => exact ⟨0, 0, by omega, rfl, rfl⟩
  case round =>
    obtain ⟨k, n, hk, rfl, rfl⟩ := hrel
    by_cases hlt : k < ss.length
    · have d1 := h1 k hlt
      have d2 := h2 k hlt
      obtain ⟨x, hx⟩ : ∃ x, ss.getD k [] = x := ⟨_, rfl⟩
      rw [hx] at d1 d2
      unfold encStr at d1 d2
      clear h1 h2
      go_wp2
      go_quiet (fail)
      go_wp2
      go_roundw
      case rel => exact ⟨k + 1, _, by omega, by go_num, rfl⟩
      case measure => simp [intOf]; omega
    · obtain rfl : k = ss.length := by omega
      go_wp2
      go_ret
      exact ⟨rfl, n, rfl⟩

/-- the marks from k on -/
def marks (k n : Nat) : List (List UInt8) := (List.range n).map fun i => markB (k + i)
theorem marks_get (k n i : Nat) (h : i < n) : (marks k n).getD i [] = markB (k + i) := by
  simp [marks, List.getD, h]
theorem keepS {w W w' : World} {b k : Nat} {v : Value} (hb : b < w.heap.size) (hS : W.cell? ⟨b, k, none⟩ = some v ∧ Below w.heap.size w W) (hb' : Below W.heap.size W w') : w'.cell? ⟨b, k, none⟩ = some v ∧ Below w.heap.size w w' :=
  ⟨(hb'.cell (p := ⟨b, k, none⟩) (Nat.lt_of_lt_of_le hb hS.2.size)).trans hS.1, hS.2.trans (hb'.mono hS.2.size)⟩
def HeldB (v : Nat) (w : World) (e : Ending) (w' : World) : Prop := e = .returned (.int .i64 v) ∧ Below w.heap.size w w'

set_option maxHeartbeats 1000000 in
set_option maxRecDepth 100000 in
theorem heldStringS_any (b c k0 n : Nat) (w : World) (h1 : ∀ i, i < n → w.cell? ⟨b, i, none⟩ = some (encStr (markB (k0 + i)))) (hb : b < w.heap.size) (hk0 : 0 < k0) (hl : k0 + n < 1000000000) :
    Calls Tryz.prog 8 #[.slice (some ⟨b, 0, none⟩) n c, .int .i64 k0] w (HeldB (k0 + n) w) := by
  go_enter Tryz.func8, Tryz.ntmps8
  go_wp2
  go_loopw [1, 5] (fun q i wr => ∃ k : Nat, k ≤ n ∧ i = .int .i64 k ∧ q = .int .i64 ((k0 + k : Nat) : Int) ∧ Below w.heap.size w wr) (fun _ i _ => n - (intOf i).toNat)
  case atStart => exact ⟨0, by omega, rfl, rfl, Below.refl _ _⟩
  case round =>
    obtain ⟨k, hk, rfl, rfl, hnx⟩ := hrel
    by_cases hlt : k < n
    · have d1 := h1 k hlt
      rw [← hnx.cell (p := ⟨b, k, none⟩) hb] at d1
      unfold encStr at d1
      clear h1
      go_wp2
      go_region_held3 (fun w' => w'.cell? ⟨b, k, none⟩ = some (.string ⟨(markB (k0 + k)).toArray⟩) ∧ Below w.heap.size w w') (first | exact ⟨d1, hnx.drew⟩ | exact keepS hb ‹_› ‹_› | go_keep)
        (first | (go_at_call 11; refine (markText_any (k0 + k) _ (by omega) (by omega)).mono ?_; rintro e w' ⟨rfl, hb'⟩))
      rename_i hS
      obtain ⟨-, hS⟩ := hS
      clear d1 hb'
      go_wp2
      go_roundw
      case rel => exact ⟨k + 1, by omega, by go_num, by push_cast; rfl, hS⟩
      case measure => simp [intOf]; omega
    · obtain rfl : k = n := by omega
      go_wp2
      go_ret
      exact ⟨rfl, hnx⟩

theorem mark_step {w wr w' : World} {b k k0 n : Nat} {v : Value} (hb : b < w.heap.size) (hlt : k < n) (hm : ∀ i, i < k → wr.cell? ⟨b, i, none⟩ = some (encStr (markB (k0 + i))))
    (hc : ∀ i, i < n → (∃ v, wr.cell? ⟨b, i, none⟩ = some v) ∧ wr.frozen? ⟨b, i, none⟩ = false) (hnx : Below b w wr) (hfr : ∀ j, j < w.heap.size → j ≠ b → wr.heap[j]? = w.heap[j]?) (hb' : Below wr.heap.size wr w')
    (d1 : w'.cell? ⟨b, k, none⟩ = some v) :
    ∃ k' : Nat, k' ≤ n ∧ Value.int .i64 ((k : Int) + 1) = .int .i64 k' ∧ Value.int .i64 ((k0 : Int) + k + 1) = .int .i64 ((k0 + k' : Nat) : Int) ∧
      (∀ i, i < k' → (w'.setCell ⟨b, k, none⟩ (.string ⟨(markB (k0 + k)).toArray⟩)).cell? ⟨b, i, none⟩ = some (encStr (markB (k0 + i)))) ∧ (∀ i, i < n → (∃ v, (w'.setCell ⟨b, k, none⟩ (.string ⟨(markB (k0 + k)).toArray⟩)).cell? ⟨b, i, none⟩ = some v) ∧ (w'.setCell ⟨b, k, none⟩ (.string ⟨(markB (k0 + k)).toArray⟩)).frozen? ⟨b, i, none⟩ = false) ∧
      Below b w (w'.setCell ⟨b, k, none⟩ (.string ⟨(markB (k0 + k)).toArray⟩)) ∧ (∀ j, j < w.heap.size → j ≠ b → (w'.setCell ⟨b, k, none⟩ (.string ⟨(markB (k0 + k)).toArray⟩)).heap[j]? = w.heap[j]?) := by
  have hbr : b < wr.heap.size := Nat.lt_of_lt_of_le hb hnx.size
  have same : (w'.setCell ⟨b, k, none⟩ (.string ⟨(markB (k0 + k)).toArray⟩)).cell? ⟨b, k, none⟩ = some (encStr (markB (k0 + k))) := World.cell?_setCell_same _ _ _ d1
  have other : ∀ i, i ≠ k → (w'.setCell ⟨b, k, none⟩ (.string ⟨(markB (k0 + k)).toArray⟩)).cell? ⟨b, i, none⟩ = wr.cell? ⟨b, i, none⟩ := fun i hi => by
    rw [World.cell?_setCell_other _ _ _ _ (fun e => hi (by cases e; rfl))]
    exact hb'.cell (p := ⟨b, i, none⟩) hbr
  refine ⟨k + 1, by omega, by go_num, by push_cast; rw [Int.add_assoc], fun i hi => ?_, fun i hi => ⟨?_, ?_⟩, ?_, fun j hj hne => ?_⟩
  · by_cases h : i = k
    · rw [h]; exact same
    · rw [other i h]; exact hm i (by omega)
  · by_cases h : i = k
    · rw [h]; exact ⟨_, same⟩
    · rw [other i h]; exact (hc i hi).1
  · rw [World.frozen?_setCell, hb'.frozen (p := ⟨b, i, none⟩) hbr]; exact (hc i hi).2
  · exact (hnx.trans (hb'.mono (by omega))).setCell (Nat.le_refl _) _
  · rw [Below.heap_setCell _ _ _ _ hne, hb'.block j (Nat.lt_of_lt_of_le hj hnx.size)]; exact hfr j hj hne
/-- behind the marks: the row holds them, all else is as it was -/
def MarkedRow (b k0 n : Nat) (w : World) (e : Ending) (w' : World) : Prop := e = .returned (.int .i64 ((k0 + n : Nat) : Int)) ∧ (∀ i, i < n → w'.cell? ⟨b, i, none⟩ = some (encStr (markB (k0 + i)))) ∧ w.heap.size ≤ w'.heap.size ∧
  w'.os = w.os ∧ w'.tape = w.tape ∧ w'.output = w.output ∧ (∀ j, j < w.heap.size → j ≠ b → w'.heap[j]? = w.heap[j]?)

set_option maxHeartbeats 1000000 in
set_option maxRecDepth 100000 in
theorem markStringS_any (b c k0 n : Nat) (w : World) (h1 : ∀ i, i < n → ∃ v, w.cell? ⟨b, i, none⟩ = some v) (hf : ∀ i, i < n → w.frozen? ⟨b, i, none⟩ = false) (hb : b < w.heap.size) (hk0 : 0 < k0) (hl : k0 + n < 1000000000) :
    Calls Tryz.prog 7 #[.slice (some ⟨b, 0, none⟩) n c, .int .i64 k0] w (MarkedRow b k0 n w) := by
  go_enter Tryz.func7, Tryz.ntmps7
  go_wp2
  go_loopw [1, 5] (fun q i wr => ∃ k : Nat, k ≤ n ∧ i = .int .i64 k ∧ q = .int .i64 ((k0 + k : Nat) : Int) ∧
      (∀ i, i < k → wr.cell? ⟨b, i, none⟩ = some (encStr (markB (k0 + i)))) ∧ (∀ i, i < n → (∃ v, wr.cell? ⟨b, i, none⟩ = some v) ∧ wr.frozen? ⟨b, i, none⟩ = false) ∧ Below b w wr ∧ (∀ j, j < w.heap.size → j ≠ b → wr.heap[j]? = w.heap[j]?)) (fun _ i _ => n - (intOf i).toNat)
  case atStart => exact ⟨0, by omega, rfl, rfl, fun i hi => by omega, fun i hi => ⟨h1 i hi, hf i hi⟩, Below.refl _ _, fun _ _ _ => rfl⟩
  case round =>
    obtain ⟨k, hk, rfl, rfl, hm, hc, hnx, hfr⟩ := hrel
    clear h1 hf
    by_cases hlt : k < n
    · go_wp2_with (go_at_call 11; refine (markText_any (k0 + k) _ (by omega) (by omega)).mono ?_; rintro e w' ⟨rfl, hb'⟩; obtain ⟨⟨v, d1⟩, d2⟩ := hc k hlt; rw [← hb'.cell (p := ⟨b, k, none⟩) (Nat.lt_of_lt_of_le hb hnx.size)] at d1; rw [← hb'.frozen (p := ⟨b, k, none⟩) (Nat.lt_of_lt_of_le hb hnx.size)] at d2)
      go_roundw
      case rel =>
        exact mark_step hb hlt hm hc hnx hfr hb' d1
      case measure => simp [intOf]; omega
    · obtain rfl : k = n := by omega
      go_wp2
      go_ret
      exact ⟨rfl, hm, hnx.size, hnx.os, hnx.tape, hnx.output, hfr⟩
end Go.Proofs.YtgahdkhondnpmaaGreatDoor
