/- Texts of one proof, joined in their order: each bears its own word of what it holds and on what condition. -/
import Derived.Test.YtllhimeffkefiaaGreatDoorMN
import Derived.Test.YtllhimeffkefiaaGreatDoorMJ
import Derived.Deep.RegionLaw
import Derived.Shelf.RegionOpenPlain
import Derived.Lib.SliceRun
import Derived.Test.YtllhimeffkefiaaGreatDoorML
set_option linter.unusedVariables false
set_option linter.unusedSimpArgs false
/- slices.Clone of edges and of nodes; slices.Delete of one edge. Condition: fewer than 2^20 elements; what is cut lies in a row of the caller's own. -/
set_option linter.unusedVariables false
set_option linter.unusedSimpArgs false
namespace Go.Proofs.YtllhimeffkefiaaGreatDoor
open Go.RowKit Go.Sort

theorem setCells_sets (g : Nat) : ∀ (us : List Value) (o : Nat) (w : World), w.setCells g o us = sets w g o us
  | [], _, _ => rfl
  | u :: us, o, w => setCells_sets g us (o + 1) _
theorem run_clear_one {P : Program} (w : World) (t e ty : TypeId) (z : Value) (zs : Array Value) (ht : P.underlying t = some (.slice e)) (hv : ∀ w, (zeroValue e).run P w = .ok z w) (hz : z.cells = zs) (h1 : ∀ u ∈ zs.toList, u.oneCell' = true) (b o c : Nat)
    (hc : ∀ j, j < zs.toList.length → (w.cell? ⟨b, o + j, none⟩).isSome = true) (hf : ∀ j, j < zs.toList.length → w.frozen? ⟨b, o + j, none⟩ = false) :
    (Builtin.clear_ #[t] ty #[.slice (some ⟨b, o, none⟩) 1 c]).run P w = .ok (.tuple #[]) (w.setCells b o zs.toList) := by
  subst hz
  have hzc : (Builtin.zeroCells z.cells 1).toList = z.cells.toList := by
    apply List.ext_getElem
    · simp [Builtin.zeroCells]
    · intro i h1 h2
      have h3 : i < z.cells.size := by simpa using h2
      simp [Builtin.zeroCells, Nat.mod_eq_of_lt h3, getElem!_pos z.cells i h3]
  have hst := run_storeCells_cells (P := P) b o z.cells.toList 0 w (by simpa using hc) (by simpa using hf) h1
  simp only [Nat.add_zero] at hst
  simp [Builtin.clear_, run_underlying ht, hv, hzc, hst]
end Go.Proofs.YtllhimeffkefiaaGreatDoor
/- Rows of int64 as a result: the laws' comparison, marks and second look. Condition: fewer than 10^6 of them. -/
set_option linter.unusedVariables false
set_option linter.unusedSimpArgs false
namespace Go.Proofs.YtllhimeffkefiaaGreatDoor
open Go.RowKit Go.Sort

def EInt : Elem Int := fun _ _ f x => f 0 = .int .i64 x
abbrev RInt := Row 1 EInt
theorem EInt.kept : EInt.Kept := fun _ _ _ _ _ _ h => h
theorem EInt.mono : EInt.Mono := fun _ _ _ _ _ _ h => h
theorem RInt.at {w : World} {S : Nat → Prop} {a : Option Addr} {n c : Nat} {xs : List Int} (h : RInt w S (.slice a n c) xs) {k : Nat} (hk : k < xs.length) :
    ∃ b o, a = some ⟨b, o, none⟩ ∧ S b ∧ w.cell? ⟨b, o + k, none⟩ = some (.int .i64 xs[k]) := by
  obtain ⟨b, o, f, ha, hS, hc, h0⟩ := h.get hk
  have c0 := hc 0 (by decide)
  rw [Nat.mul_one, Nat.add_zero, h0] at c0
  exact ⟨b, o, ha, hS, c0⟩
theorem own_rint {w : World} {base : Nat} {v : Value} {xs : List Int} (h : w.ownsRow base 2 1 v xs.length (xs.map (Value.int .i64))) (hl : xs.length ≤ 9223372036854775807) : RInt w (fun b => base ≤ b) v xs ∧ Own 1 w base v xs.length := by
  rcases h.2 with ⟨rfl, hn⟩ | ⟨g, cap, cur, rfl, hb, hgg, hc, hm, hs, ht⟩
  · have : xs = [] := List.length_eq_zero_iff.1 hn
    subst this
    exact ⟨nilRow _ _ _ _, none, 0, rfl, .inl rfl⟩
  · have hat : ∀ i x, xs[i]? = some x → w.cell? ⟨g, i, none⟩ = some (.int .i64 x) := fun i x hu => by
      have hi : i < xs.length := (List.getElem?_eq_some_iff.1 hu).1
      have e : (cur.toList.take (xs.length * 1))[i]? = some (.int .i64 x) := by rw [ht, List.getElem?_map, hu]; rfl
      rw [List.getElem?_take, if_pos (by omega)] at e
      have := World.news_of_block hgg i _ e
      rw [Addr.add_lit] at this
      rw [show i = 0 + i by omega]
      exact this
    refine ⟨⟨_, cap, rfl, hl, fun k x hx => ⟨g, 0, fun _ => .int .i64 x, rfl, hb, fun j hj => ?_, rfl⟩⟩, _, cap, rfl, .inr ⟨g, rfl, hb, (Array.getElem?_eq_some_iff.1 hgg).1, fun i hi => ?_, fun i => h.frozenAt i⟩⟩
    · rw [show 0 + k * 1 + j = k by omega]; exact hat k x hx
    · exact ⟨_, hat i _ (List.getElem?_eq_getElem (by omega))⟩

set_option maxHeartbeats 1000000 in
set_option maxRecDepth 100000 in
theorem eqInt64S_any (w : World) (S S' : Nat → Prop) (v v' : Value) (ss : List Int) (h : RInt w S v ss) (h' : RInt w S' v' ss) : Calls Tryz.prog 17 #[v, v'] w (Tru w) := by
  obtain ⟨a, c, rfl⟩ := h.shape
  obtain ⟨a', c', rfl⟩ := h'.shape
  have hl := h.len
  go_enter Tryz.func17, Tryz.ntmps17
  go_wp2
  go_loopw [5] (fun i wr => ∃ k : Nat, k ≤ ss.length ∧ i = .int .i64 k ∧ Below w.heap.size w wr) (fun i _ => ss.length - (intOf i).toNat)
  case atStart => exact ⟨0, by omega, rfl, Below.refl _ _⟩
  case round =>
    obtain ⟨k, hk, rfl, hnx⟩ := hrel
    by_cases hlt : k < ss.length
    · obtain ⟨b, o, rfl, -, d0⟩ := RInt.at (h.below EInt.kept hnx) hlt
      obtain ⟨b', o', rfl, -, d0'⟩ := RInt.at (h'.below EInt.kept hnx) hlt
      have f0 : decide ((k : Int) < ss.length) = true := decide_eq_true (by omega)
      have f0' : decide (k < ss.length) = true := decide_eq_true hlt
      have hlt2 : (k : Int) < ss.length := by omega
      obtain ⟨x, hx⟩ : ∃ x, ss[k] = x := ⟨_, rfl⟩
      rw [hx] at d0 d0'
      have f1 : (x != x) = false := by simp
      clear hx
      go_wp2
      go_big_quiet (fail)

      go_wp2
      go_roundw
      case rel => exact ⟨k + 1, by omega, by go_num, hnx.trans ((drewN_below wr nq).mono hnx.size)⟩
      case measure => simp [intOf]; omega
    · obtain rfl : k = ss.length := by omega
      go_wp2
      go_ret
      exact ⟨rfl, hnx⟩

set_option maxHeartbeats 1000000 in
set_option maxRecDepth 100000 in
theorem markInt64S_any (w : World) (B : Nat) (v : Value) (n : Nat) (h : Own 1 w B v n) (hl : n ≤ 1000000) : Calls Tryz.prog 19 #[v, .int .i64 1] w (NumsMade 1 v n (1 + n) w) := by
  obtain ⟨a, c, rfl, h⟩ := h
  go_enter Tryz.func19, Tryz.ntmps19
  go_wp2
  go_loopw [1, 5] (fun q i wr => ∃ k : Nat, k ≤ n ∧ i = .int .i64 k ∧ q = .int .i64 ((1 + k : Nat) : Int) ∧ But (.slice a n c) w wr ∧ (∀ g, a = some ⟨g, 0, none⟩ → 0 < n → Nums' 1 wr g k n)) (fun _ i _ => n - (intOf i).toNat)
  case atStart =>
    refine ⟨0, by omega, rfl, rfl, ⟨rfl, rfl, rfl, Nat.le_refl _, fun _ _ _ => rfl⟩, fun g hg hn => ?_⟩
    rcases h with h | ⟨g', ha, _, _, hc, hf⟩
    · omega
    · rw [ha] at hg
      cases hg
      exact ⟨fun i hi => by omega, hc, hf⟩
  case round =>
    obtain ⟨k, hk, rfl, rfl, hnx, hw⟩ := hrel
    by_cases hlt : k < n
    · rcases h with h | ⟨g, rfl, hB, hg, -, -⟩
      · omega
      have hN := hw g rfl (by omega)
      obtain ⟨x0, e0⟩ := hN.2.1 (k * 1) (by omega)
      rw [Nat.mul_one] at e0
      have f0 := hN.2.2 k
      clear hw
      go_wp2
      go_roundw
      case rel =>
        have hr : Nums' 1 (sets wr g (k * 1) [.int .i64 (1 + (k : Int))]) g (k + 1) n := hN.step hlt (us := [.int .i64 (1 + (k : Int))]) rfl (fun j hj => by
          obtain rfl : j = 0 := by omega
          show Value.int .i64 _ = _; congr 1; omega)
        have hq := hnx.sets (g := g) rfl (k * 1) [.int .i64 (1 + (k : Int))]
        rw [Nat.mul_one] at hr hq
        refine ⟨k + 1, by omega, by go_num, by congr 1 <;> omega, hq, fun g1 hg1 _ => ?_⟩
        cases hg1
        exact hr
      case measure => simp [intOf]; omega
    · obtain rfl : k = n := by omega
      go_wp2
      go_ret
      refine ⟨rfl, ⟨a, c, rfl, ?_⟩, hnx⟩
      rcases h with h | ⟨g, ha, _⟩
      · exact .inl h
      · by_cases h0 : k = 0
        · exact .inl h0
        · exact .inr ⟨g, ha, (hw g ha (by omega)).1⟩

set_option maxHeartbeats 1000000 in
set_option maxRecDepth 100000 in
theorem heldInt64S_any (w : World) (v : Value) (n : Nat) (h : Nums 1 w v n) (hl : n ≤ 1000000) : Calls Tryz.prog 20 #[v, .int .i64 1] w (NumsSeen (1 + n) w) := by
  obtain ⟨a, c, rfl, h⟩ := h
  go_enter Tryz.func20, Tryz.ntmps20
  go_wp2
  go_loop [1, 5] (fun q i => ∃ k : Nat, k ≤ n ∧ i = .int .i64 k ∧ q = .int .i64 ((1 + k : Nat) : Int)) (fun _ i => n - (intOf i).toNat)
  case atStart => exact ⟨0, by omega, rfl, rfl⟩
  case round =>
    obtain ⟨k, hk, rfl, rfl⟩ := hrel
    by_cases hlt : k < n
    · rcases h with h | ⟨g, rfl, hc⟩
      · omega
      have e0 := hc k (by omega)
      rw [show ((1 + k : Nat) : Int) = 1 + (k : Int) by omega] at e0
      clear hc
      go_wp2
      go_round
      case rel => exact ⟨k + 1, by omega, by go_num, by congr 1 <;> omega⟩
      case measure => simp [intOf]; omega
    · obtain rfl : k = n := by omega
      go_wp2
      go_ret
      exact ⟨rfl, rfl⟩
theorem markInt64S_none (w : World) (a : Option Addr) (c : Nat) : Calls Tryz.prog 19 #[.slice a 0 c, .int .i64 1] w (fun e w' => e = .returned (.int .i64 1) ∧ Below w.heap.size w w') := by
  go_enter Tryz.func19, Tryz.ntmps19
  go_wp2
  go_loopw [1, 5] (fun q i wr => i = .int .i64 0 ∧ q = .int .i64 1 ∧ Below w.heap.size w wr) (fun _ i _ => 0)
  case atStart => exact ⟨rfl, rfl, Below.refl _ _⟩
  case round =>
    obtain ⟨rfl, rfl, hb⟩ := hrel
    go_wp2
    go_ret
    exact ⟨rfl, hb⟩
theorem markInt64S_own (w : World) (B : Nat) (v : Value) (n : Nat) (h : Own 1 w B v n) (hl : n ≤ 1000000) (hB : B ≤ w.heap.size) : Calls Tryz.prog 19 #[v, .int .i64 1] w (fun e w' => e = .returned (.int .i64 ((1 + n : Nat) : Int)) ∧ Nums 1 w' v n ∧ Below B w w') := by
  have h0 := h
  obtain ⟨a, c, rfl, q | ⟨g, rfl, hg, _⟩⟩ := h
  · subst q
    exact (markInt64S_none w a c).mono fun e w' h => ⟨h.1, ⟨a, c, rfl, .inl rfl⟩, h.2.mono hB⟩
  · exact (markInt64S_any w B _ n h0 hl).mono fun e w' h => ⟨h.1, h.2.1, h.2.2.below (fun b hb => by simp [Value.ownBlock] at hb; omega) hB⟩
/-- the numbers, in a row of the call's own -/
def IntsR (xs : List Int) (w : World) (e : Ending) (w' : World) : Prop := ∃ v, e = .returned v ∧ RInt w' (fun b => w.heap.size ≤ b) v xs ∧ Own 1 w' w.heap.size v xs.length ∧ Below w.heap.size w w'
end Go.Proofs.YtllhimeffkefiaaGreatDoor
