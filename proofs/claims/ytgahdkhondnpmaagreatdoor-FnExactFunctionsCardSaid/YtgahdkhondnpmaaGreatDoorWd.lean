/- The law FnExactFunctions walked: it answers true; no condition. -/
import Derived.Test.YtgahdkhondnpmaaGreatDoorWc
namespace Go.Proofs.YtgahdkhondnpmaaGreatDoor
open Go.RowKit Go.WideMaps Go.Sort

def specNames : List (List UInt8) := [
  [97, 98, 115],
  [98, 101, 103, 105, 110, 115],
  [99, 111, 97, 108, 101, 115, 99, 101],
  [100, 97, 116, 101],
  [100, 101, 103, 114, 101, 101],
  [100, 105, 115, 116, 97, 110, 99, 101],
  [101, 100, 103, 101, 115],
  [101, 110, 100, 115],
  [102, 105, 110, 105, 115, 104],
  [104, 97, 115],
  [104, 101, 97, 100],
  [105, 100],
  [107, 101, 121, 115],
  [108, 97, 98, 101, 108, 115],
  [108, 97, 115, 116],
  [108, 111, 119, 101, 114],
  [110, 111, 100, 101, 115],
  [112, 111, 105, 110, 116],
  [114, 97, 110, 103, 101],
  [114, 101, 118, 101, 114, 115, 101],
  [115, 105, 122, 101],
  [115, 112, 108, 105, 116],
  [115, 116, 97, 114, 116],
  [116, 121, 112, 101],
  [117, 112, 112, 101, 114]]
theorem names_eq : names25 = specNames := by
  have h1 : (coal :: strKeys tabD).Perm specNames := List.isPerm_iff.1 (by kernel_rfl)
  have h2 : specNames.mergeSort leB = specNames := List.mergeSort_of_pairwise (by
    have : (specNames.map fun x => x).Pairwise (fun a b => leB a b = true) := by decide +kernel
    simpa using this)
  exact (mergeSort_of_perm h1).trans h2

set_option maxHeartbeats 2000000 in
set_option maxRecDepth 1000000 in
theorem specFunctions_any (w : World) : Calls Tryz.prog 4 #[] w (OwnTexts names25 w) := by
  rw [names_eq]
  go_enter Tryz.func4, Tryz.ntmps4
  go_wp2
  go_ret
  refine ⟨w.heap.size, 25, rfl, Nat.le_refl _, by simp, fun k hk => ?_, fun i => ?_, (RowKit.Below.refl _ w).alloc (Nat.le_refl _) _⟩
  · rw [World.cell?_alloc_mark]
    have : (specNames.map encStr).toArray[k]? = some (encStr (specNames.getD k [])) := by
      simp [List.getD, List.getElem?_eq_getElem hk]
    exact this
  · rw [World.frozen?_alloc_mark]; simp

theorem len25 : names25.length = 25 := by rw [names_eq]; rfl
/-- a row of the call's own that holds all names -/
def Own25 (w : World) (e : Ending) (w' : World) : Prop := ∃ g cap, e = .returned (.slice (some ⟨g, 0, none⟩) 25 cap) ∧ w.heap.size ≤ g ∧ g < w'.heap.size ∧ Texts w' g names25 ∧ (∀ i, w'.frozen? ⟨g, i, none⟩ = false) ∧ RowKit.Below w.heap.size w w'
theorem own25 {w w' : World} {e : Ending} (h : OwnTexts names25 w e w') : Own25 w e w' := by
  obtain ⟨g, cap, h1, h2⟩ := h
  rw [len25] at h1
  exact ⟨g, cap, h1, h2⟩
theorem spec25 (w : World) : Calls Tryz.prog 4 #[] w (Own25 w) := (specFunctions_any w).mono fun _ _ h => own25 h
theorem impl25 (w : World) : Calls Tryz.prog 5 #[] w (Own25 w) := (implFunctions_any w).mono fun _ _ h => own25 h
theorem eq25 (b1 b2 c1 c2 : Nat) (w : World) (h1 : Texts w b1 names25) (h2 : Texts w b2 names25) : Calls Tryz.prog 6 #[.slice (some ⟨b1, 0, none⟩) 25 c1, .slice (some ⟨b2, 0, none⟩) 25 c2] w (SameB w) := by
  have := eqStringS_any names25 b1 b2 c1 c2 w h1 h2 (by rw [len25]; decide)
  rwa [len25] at this
def Marked25 (b : Nat) (w : World) (e : Ending) (w' : World) : Prop := e = .returned (.int .i64 26) ∧ (∀ i, i < 25 → w'.cell? ⟨b, i, none⟩ = some (encStr (markB (1 + i)))) ∧ w.heap.size ≤ w'.heap.size ∧
  w'.os = w.os ∧ w'.tape = w.tape ∧ w'.output = w.output ∧ (∀ j, j < w.heap.size → j ≠ b → w'.heap[j]? = w.heap[j]?)
theorem mark25 (b c : Nat) (w : World) (h1 : Texts w b names25) (hf : ∀ i, w.frozen? ⟨b, i, none⟩ = false) (hb : b < w.heap.size) : Calls Tryz.prog 7 #[.slice (some ⟨b, 0, none⟩) 25 c, .int .i64 1] w (Marked25 b w) :=
  markStringS_any b c 1 25 w (fun i hi => ⟨_, h1 i (by rw [len25]; exact hi)⟩) (fun i _ => hf i) hb (by decide) (by decide)
def Held25 (w : World) (e : Ending) (w' : World) : Prop := e = .returned (.int .i64 26) ∧ RowKit.Below w.heap.size w w'
theorem held25 (b c : Nat) (w : World) (h1 : ∀ i, i < 25 → w.cell? ⟨b, i, none⟩ = some (encStr (markB (1 + i)))) (hb : b < w.heap.size) : Calls Tryz.prog 8 #[.slice (some ⟨b, 0, none⟩) 25 c, .int .i64 1] w (Held25 w) :=
  heldStringS_any b c 1 25 w h1 hb (by decide) (by decide)

theorem Texts.kept {w w' : World} {b : Nat} {ss : List (List UInt8)} (h : Texts w b ss) (hb : w'.heap[b]? = w.heap[b]?) : Texts w' b ss := fun k hk => (World.cell?_of_block (a := ⟨b, k, none⟩) hb).trans (h k hk)
def Marks (w : World) (b : Nat) : Prop := ∀ i, i < 25 → w.cell? ⟨b, i, none⟩ = some (encStr (markB (1 + i)))
theorem Marks.kept {w w' : World} {b : Nat} (h : Marks w b) (hb : w'.heap[b]? = w.heap[b]?) : Marks w' b := fun k hk => (World.cell?_of_block (a := ⟨b, k, none⟩) hb).trans (h k hk)

/-- the law answers true; nothing old has turned -/
def SaysTrue (w : World) (e : Ending) (w' : World) : Prop := e = .returned (.bool true) ∧ RowKit.Below w.heap.size w w'

set_option maxHeartbeats 2000000 in
set_option maxRecDepth 1000000 in
theorem law_any (w : World) : Calls Tryz.prog 3 #[] w (SaysTrue w) := by
  go_enter Tryz.func3, Tryz.ntmps3
  go_wp2_with fail
  refine (spec25 _).mono ?_
  rintro e w1 ⟨g1, c1, rfl, a1, a2, t1, -, B1⟩
  go_wp2_with fail
  refine (impl25 _).mono ?_
  rintro e w2 ⟨g2, c2, rfl, b1, b2, t2, f2, B2⟩
  have t12 := t1.kept (B2.block g1 a2)
  go_wp2_with fail
  refine (eq25 g2 g1 c2 c1 w2 t2 t12).mono ?_
  rintro e w3 ⟨rfl, n, rfl⟩
  go_wp2_with fail
  refine (mark25 g2 c2 (w2.drewN n) t2 f2 b2).mono ?_
  rintro e w4 ⟨rfl, m4, z4, o4, p4, q4, k4⟩
  have t14 : Texts w4 g1 names25 := Texts.kept (w := w2.drewN n) t12 (k4 g1 (Nat.lt_of_lt_of_le a2 B2.size) (by omega))
  have g2z : g2 < w4.heap.size := Nat.lt_of_lt_of_le b2 z4
  have g1z : g1 < w4.heap.size := Nat.lt_of_lt_of_le (Nat.lt_of_lt_of_le a2 B2.size) z4
  have B4 : RowKit.Below w.heap.size w w4 := (B1.trans (B2.mono B1.size)).trans ⟨o4, p4, q4, z4, fun k hk => k4 k (Nat.lt_of_lt_of_le hk (Nat.le_trans B1.size B2.size)) (by have := B1.size; omega)⟩
  have M4 : Marks w4 g2 := m4
  clear o4 p4 q4 k4 m4 t12 t2 f2 B1 B2 t1
  go_wp2_with fail
  refine (held25 g2 c2 w4 M4 g2z).mono ?_
  rintro e w5 ⟨rfl, B5⟩
  have t15 := t14.kept (B5.block g1 g1z)
  have M5 := M4.kept (B5.block g2 g2z)
  clear t14 M4
  go_wp2_with fail
  refine (impl25 w5).mono ?_
  rintro e w6 ⟨g3, c3, rfl, d1, d2, t3, -, B6⟩
  have t16 := t15.kept (B6.block g1 (Nat.lt_of_lt_of_le g1z B5.size))
  have M6 := M5.kept (B6.block g2 (Nat.lt_of_lt_of_le g2z B5.size))
  have g2y : g2 < w6.heap.size := Nat.lt_of_lt_of_le (Nat.lt_of_lt_of_le g2z B5.size) B6.size
  clear t15 M5
  go_wp2_with fail
  refine (eq25 g3 g1 c3 c1 w6 t3 t16).mono ?_
  rintro e w7 ⟨rfl, n7, rfl⟩
  go_wp2_with fail
  refine (held25 g2 c2 (w6.drewN n7) M6 g2y).mono ?_
  rintro e w8 ⟨rfl, B8⟩
  go_wp2_with fail
  go_ret
  have z : w.heap.size ≤ w4.heap.size := B4.size
  have B9 : RowKit.Below w.heap.size w6 w8 := ⟨B8.os, B8.tape, B8.output, B8.size, fun k hk => B8.block k (Nat.lt_of_lt_of_le hk (Nat.le_trans z (Nat.le_trans B5.size B6.size)))⟩
  exact ⟨rfl, ((B4.trans (B5.mono z)).trans (B6.mono (Nat.le_trans z B5.size))).trans B9⟩
end Go.Proofs.YtgahdkhondnpmaaGreatDoor
