/- The walks of the two lists of functions' names: each hands back the sorted names in memory of its own; no condition. -/
import Derived.Test.YtgahdkhondnpmaaGreatDoorWa
import Derived.Test.YtgahdkhondnpmaaGreatDoorWb
import Derived.Test.YtgahdkhondnpmaaGreatDoorSh
import Derived.Sort.KeysCollected
import Derived.Sort.OwnSorted
import Derived.OwnWalk
namespace Go.Proofs.YtgahdkhondnpmaaGreatDoor
open Go.RowKit Go.WideMaps Go.Sort
open Go.Maps (Keyed)

theorem info9 : (Tryz.prog.info? 9).map (fun i => (i.zero, i.size, i.bytes)) = some (some (.string ⟨#[]⟩), 1, 16) := by kernel_rfl
def coal : List UInt8 := [99, 111, 97, 108, 101, 115, 99, 101]
/-- all names, sorted -/
def names25 : List (List UInt8) := (coal :: strKeys tabD).mergeSort leB
/-- a row of the call's own that holds these texts -/
def OwnTexts (ts : List (List UInt8)) (w : World) (e : Ending) (w' : World) : Prop := ∃ g cap, e = .returned (.slice (some ⟨g, 0, none⟩) ts.length cap) ∧ w.heap.size ≤ g ∧ g < w'.heap.size ∧ Texts w' g ts ∧ (∀ i, w'.frozen? ⟨g, i, none⟩ = false) ∧ Below w.heap.size w w'

theorem below_grown {w w' : World} (h : RowKit.Below w.heap.size w w') : w.grownBy w' none := ⟨h.os, h.tape, h.output, h.size, fun k hk _ => h.block k hk⟩
theorem own_one (w : World) (s : List UInt8) : (w.alloc (.cells #[encStr s] 9)).ownsRow w.heap.size 9 1 (.slice (some ⟨w.heap.size, 0, none⟩) 1 1) 1 [encStr s] := by
  refine ⟨by simp, .inr ⟨w.heap.size, 1, #[encStr s], rfl, Nat.le_refl _, ?_, Nat.le_refl _, by unfold maxLen; omega, by simp, by simp⟩⟩
  exact heap_alloc_new w _

theorem ret_v {a b : Value} (h : a = b) : Ending.returned a = .returned b := by rw [h]
theorem cell_one_new' (w : World) (s : List UInt8) : ∀ (j : Nat) (u : Value), [encStr s][j]? = some u → (w.alloc (.cells #[encStr s] 9)).cell? ((⟨w.heap.size, 0, none⟩ : Addr).add j) = some u := by
  intro j u hj
  match j, hj with
  | 0, hj =>
    rw [show (⟨w.heap.size, 0, none⟩ : Addr).add 0 = ⟨w.heap.size, 0, none⟩ from rfl, World.cell?_alloc_mark]
    simpa using hj
theorem row_ne_map {w : World} {b r n : Nat} {D : DataW Unit} {left : Lit → Bool} {cnt base : Nat} {e : TypeId} {size : Nat} {v : Value} {m : Nat} {xs : List Value}
    (h : w.ownsRow base e size v m xs) (hr : w.ranges Tryz.prog 9 RF b r n D left cnt) : some b ≠ v.ownBlock := by
  obtain ⟨_, _, _, _, _, hit, _⟩ := hr
  rcases h.2 with ⟨rfl, _⟩ | ⟨g, cap, cur, rfl, _, hb, _⟩
  · simp [Value.ownBlock]
  · intro e1
    have : b = g := by simpa [Value.ownBlock] using e1
    subst this
    rw [hit] at hb
    cases hb

set_option maxHeartbeats 2000000 in
set_option maxRecDepth 1000000 in
theorem implFunctions_any (w : World) : Calls Tryz.prog 5 #[] w (OwnTexts names25 w) := by
  obtain ⟨i0, hi, hz0, hz1, hz2⟩ := info_parts info9
  go_enter Tryz.func5, Tryz.ntmps5
  go_wp2_with (first
    | (go_at_call 9; refine (functions_any _).mono ?_; rintro e w1 ⟨b, rfl, hbb, hown, hB1⟩)
    | (at_range; refine wpList_range_own _ rfl _ 27 rfl 9 37 kmap9 Tryz.underlying27 RF b 30 tabD rfl hown ?_; intro w0 hrg0 hg0 hs0))
  go_frame
  have hrow0 := ((own_one w coal).kept (below_grown hB1) (.inr (by simp [Value.ownBlock]))).kept hg0 (.inr (by simp [Value.ownBlock]))
  have hB0 : RowKit.Below w.heap.size w w0 := (((RowKit.Below.refl _ w).alloc (Nat.le_refl _) _).trans (hB1.mono (by simp))).grown hg0 (by have := hB1.size; simp at this; omega) (fun j hj => by cases hj)
  have hbw : w.heap.size < b := by simp at hbb; omega
  clear hs0
  go_loopw [1] (fun v wr => ∃ (left : Lit → Bool) (cnt : Nat) (ss : List (List UInt8)), wr.ranges Tryz.prog 9 RF b w1.heap.size 30 tabD left cnt ∧ ss.length + cnt ≤ 24 ∧
      wr.ownsRow w.heap.size 9 1 v (ss.length + 1) ((coal :: ss).map encStr) ∧ v ≠ .slice none 0 0 ∧ Collected tabD left ss ∧ RowKit.Below w.heap.size w wr)
    (fun _ wr => wr.rangeLeft b w1.heap.size)
  case atStart => exact ⟨_, _, [], hrg0, by decide, hrow0, by simp, Collected.start tabD, hB0⟩
  case round =>
    obtain ⟨left, cnt, ss, hrg, hcs, hrow, hnn, hC, hnx⟩ := hrel
    go_wp2_with (first
      | (at_next; refine wpList_next_ranges _ rfl _ rfl 9 kmap9 RF encStr (fun v : Value => v) (fun key kl hk => by obtain ⟨x, hx, _⟩ := Maps.keyOf_str Tryz.underlying9 hk; exact ⟨x, hx⟩) (fun v y hv => ⟨v, rfl⟩) b w1.heap.size 30 _ _ _ rfl hrg ?_ ?_))
    · intro hc0 hl0
      rcases hrow.2 with ⟨hnil, _⟩ | ⟨g, cap, cur, rfl, hbase, hb, h1, h2, h3, h4⟩
      · exact absurd hnil hnn
      have hH : Holds encStr wr g 0 (coal :: ss).toArray := holds_of_block hb (by simpa using h4)
      have hgl : g < wr.heap.size := (Array.getElem?_eq_some_iff.1 hb).1
      have hc := Tryz.slices_Sort_string g 0 cap (coal :: ss) wr hH hgl (by simp; omega)
      have hperm : (coal :: ss).mergeSort leB = names25 := mergeSort_of_perm ((hC.perm hown kmap9 Tryz.underlying9 hl0).cons coal)
      have hlen : names25.length = ss.length + 1 := by rw [← hperm]; simp
      go_wp2_with (go_at_call 10; refine hc.mono ?_; rintro e w' ⟨rfl, nn, os, rfl⟩)
      go_ret
      have hs := ownsRow_sorted (n := nn) (os := os) (ss := coal :: ss) (ts := names25) (by simpa using hlen) hbase hb (by simpa using h1) h2 h3
      refine ⟨g, cap, ret_v (by rw [hlen]; rfl), hbase, (hs.lt g rfl).2, fun k hk => ?_, fun i => hs.frozenAt i, hnx.grown (grownBy_sorted _) hnx.size (fun j hj => by cases hj; exact hbase)⟩
      rw [hs.cellAt k (by simp; omega)]
      simp [List.getD, List.getElem?_eq_getElem hk]
    · -- a name has come: it goes to the end
      intro x c kl yd yp w2 cnt2 hkey hlk hv hat hrg2 hlt hg2 hs2 hen
      obtain ⟨x', ex, rfl, _⟩ := Maps.keyOf_str Tryz.underlying9 hkey
      obtain rfl : x = x' := encStr_inj ex
      have hrow2 := hrow.kept hg2 (Or.inr (row_ne_iter hrow hrg).symm)
      clear hs2
      go_wp2_with (at_builtin; refine wpList_append_own _ rfl _ _ 22 rfl w.heap.size 9 i0 (.string ⟨#[]⟩) 1 16 Tryz.underlying22 hi hz0 hz1 hz2 rfl (by decide) _ _ _ rfl (hrow2.alloc _) ⟨w2.heap.size, 0, none⟩ 1 1 [encStr x] rfl rfl (cell_one_new' _ _) (by simp [Value.oneCell', encStr]) (by unfold maxLen; omega) (by omega) (by have := hnx.size; have := hg2.size; simp; omega) ?_; intro v' w3 hown' hg3 hnil3; go_frame)
      have hrg3 := (hrg2.alloc _).kept hg3 (row_ne_map hrow2 hrg2) (row_ne_iter hrow2 hrg2)
      go_roundw
      case rel =>
        refine ⟨_, cnt2, ss ++ [x], hrg3, by simp; omega, by simpa using hown', fun hv' => by have := (hnil3.1 hv').2; omega, hC.step hlk hat, ?_⟩
        exact ((hnx.grown hg2 hnx.size (fun j hj => by cases hj; have := hB1.size; simp at this; omega)).alloc (by have := hnx.size; have := hg2.size; omega) _).grown hg3 (by have := hnx.size; have := hg2.size; simp; omega) (fun j hj => (hrow2.lt j hj).1)
      case measure => rw [hrg3.left_eq, hrg.left_eq]; exact hlt
end Go.Proofs.YtgahdkhondnpmaaGreatDoor
