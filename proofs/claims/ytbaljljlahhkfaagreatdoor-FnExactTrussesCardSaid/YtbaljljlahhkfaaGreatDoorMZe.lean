/- Texts of one proof, joined in their order: each bears its own word of what it holds and on what condition. -/
import Derived.Test.YtbaljljlahhkfaaGreatDoorMZa
import Derived.Test.YtbaljljlahhkfaaGreatDoorML
import Derived.Test.YtbaljljlahhkfaaGreatDoorMP
set_option linter.unusedVariables false
set_option linter.unusedSimpArgs false
/- The specification's count of triples of two; rows of numbers while they are made; the two tables side by side. No condition on the graph. -/
set_option linter.unusedVariables false
set_option linter.unusedSimpArgs false
namespace Go.Proofs.YtbaljljlahhkfaaGreatDoor
open Go.RowKit Go.Sort

structure Tbl (W : World) (gO n : Nat) (gs : Nat → Nat) (M : Nat → Nat → Bool) : Prop where
  row : ∀ i, i < n → W.cell? ⟨gO, i, none⟩ = some (rowV gs n i)
  cell : ∀ i, i < n → ∀ j, j < n → W.cell? ⟨gs i, j, none⟩ = some (.bool (M i j))
theorem Tbl.below {W W' : World} {gO n : Nat} {gs : Nat → Nat} {M : Nat → Nat → Bool} (h : Tbl W gO n gs M) (hb : Below W.heap.size W W') : Tbl W' gO n gs M :=
  ⟨fun i hi => cell_kept (fun hl => hb.block _ hl) (h.row i hi), fun i hi j hj => cell_kept (fun hl => hb.block _ hl) (h.cell i hi j hj)⟩
def TriB (n : Nat) (M : Nat → Nat → Bool) (a b : Nat) (w : World) (e : Ending) (w' : World) : Prop := ∃ d : Nat, e = .returned (.int .i64 d) ∧ CardOf (fun k => k < n ∧ M a k = true ∧ M b k = true) d ∧ Below w.heap.size w w'
set_option maxHeartbeats 2000000 in
set_option maxRecDepth 100000 in
theorem striples_any (w : World) (gO cO n : Nat) (hn : n ≤ 200) (gs : Nat → Nat) (M : Nat → Nat → Bool) (hM : Tbl w gO n gs M) (a b : Nat) (ha : a < n) (hb : b < n) :
    Calls Tryz.prog 51 #[.agg #[.slice (some ⟨gO, 0, none⟩) n cO], .int .i64 a, .int .i64 b] w (TriB n M a b w) := by
  have hn2 : (n : Int) ≤ 200 := by omega
  have hb0 := (Below.refl _ w).alloc (Nat.le_refl _) (.cells #[.slice (some ⟨gO, 0, none⟩) n cO] 53)
  have x0 : (w.alloc (.cells #[.slice (some ⟨gO, 0, none⟩) n cO] 53)).cell? ⟨w.heap.size, 0, none⟩ = some (.slice (some ⟨gO, 0, none⟩) n cO) := by rw [World.cell?_alloc_mark]; rfl
  go_enter Tryz.func51, Tryz.ntmps51
  go_wp2_with fail
  go_loopw [7, 8] (fun dd kk wr => ∃ (k d : Nat), k ≤ n ∧ d ≤ k ∧ kk = .int .i64 k ∧ dd = .int .i64 d ∧ CardOf (fun j => j < k ∧ M a j = true ∧ M b j = true) d ∧ Below w.heap.size w wr ∧ wr.cell? ⟨w.heap.size, 0, none⟩ = some (.slice (some ⟨gO, 0, none⟩) n cO)) (fun _ kk wr => n - (intOf kk).toNat)
  case atStart => exact ⟨0, 0, by omega, by omega, rfl, rfl, CardOf.none (fun j q => by omega), hb0, x0⟩
  case round =>
    clear hb0 x0
    obtain ⟨k, d, hk, hd, rfl, rfl, hiff, hbw, q0⟩ := hrel
    by_cases hlt : k < n
    · have f0 : decide ((k : Int) < n) = true := decide_eq_true (by omega)
      have f0' : decide (k < n) = true := decide_eq_true hlt
      have hlt2 : (k : Int) < n := by omega
      have han2 : (a : Int) < n := by omega
      have hbn2 : (b : Int) < n := by omega
      have hT := hM.below hbw
      have hr1 := hT.row a ha
      have hr2 := hT.row b hb
      unfold rowV at hr1 hr2
      have z1 := hT.cell a ha k hlt
      have z2 := hT.cell b hb k hlt
      have hd2 : (d : Int) ≤ 200 := by omega
      clear hT
      cases hm : M a k with
      | false =>
        rw [hm] at z1
        have hN := card_skip hiff (fun q => by have := q.1; rw [hm] at this; cases this)
        clear hiff hm
        go_wp2_with (go_at_call 79; refine (sbool_false _).mono ?_; rintro e w' ⟨rfl, rfl⟩)
        go_round
        case rel => exact ⟨k + 1, d, by omega, by omega, by go_num, by first | rfl | go_num, hN, hbw, q0⟩
        case measure => simp [intOf]; omega
      | true =>
        rw [hm] at z1
        cases hm2 : M b k with
        | false =>
          rw [hm2] at z2
          have hN := card_skip hiff (fun q => by have := q.2; rw [hm2] at this; cases this)
          clear hiff hm hm2
          go_wp2_with (go_at_call 79; refine (sbool_false _).mono ?_; rintro e w' ⟨rfl, rfl⟩)
          go_round
          case rel => exact ⟨k + 1, d, by omega, by omega, by go_num, by first | rfl | go_num, hN, hbw, q0⟩
          case measure => simp [intOf]; omega
        | true =>
          rw [hm2] at z2
          have hN := card_take hiff ⟨hm, hm2⟩
          clear hiff hm hm2
          go_wp2_with (go_at_call 79; refine (sbool_true _).mono ?_; rintro e w' ⟨rfl, rfl⟩)
          go_round
          case rel => exact ⟨k + 1, d + 1, by omega, by omega, by go_num, by go_num, hN, hbw, q0⟩
          case measure => simp [intOf]; omega
    · have hk3 : k = n := by omega
      subst hk3
      have f0 : decide ((k : Int) < k) = false := decide_eq_false (by omega)
      go_wp2_with fail
      go_ret
      exact ⟨d, rfl, hiff, hbw⟩
theorem striples_is (w : World) (gO cO n : Nat) (hn : n ≤ 200) (gs : Nat → Nat) (M : Nat → Nat → Bool) (hM : Tbl w gO n gs M) (a b d : Nat) (ha : a < n) (hb : b < n) (hc : CardOf (fun k => k < n ∧ M a k = true ∧ M b k = true) d) :
    Calls Tryz.prog 51 #[.agg #[.slice (some ⟨gO, 0, none⟩) n cO], .int .i64 a, .int .i64 b] w (fun e w' => e = .returned (.int .i64 d) ∧ Below w.heap.size w w') :=
  (striples_any w gO cO n hn gs M hM a b ha hb).mono (by
    rintro e w' ⟨d', rfl, hc', hb⟩
    rw [CardOf.same hc' hc]
    exact ⟨rfl, hb⟩)

/-! ### rows of noughts, one behind the other -/
structure Rwi (base : Nat) (W : World) (v : Value) (k n : Nat) (gt : Nat → Nat) : Prop where
  own : W.ownsRow base 39 1 v k ((List.range k).map (rowV gt n))
  lo : ∀ i, i < k → base ≤ gt i
  hi : ∀ i, i < k → gt i < W.heap.size
  out : ∀ i, i < k → v.ownBlock ≠ some (gt i)
  cell : ∀ i, i < k → ∀ j, j < n → W.cell? ⟨gt i, j, none⟩ = some (.int .i64 0)
  fro : ∀ i, i < k → ∀ o, W.frozen? ⟨gt i, o, none⟩ = false
  inj : ∀ i j, i < k → j < k → gt i = gt j → i = j
theorem Rwi.below {base : Nat} {W W' : World} {v : Value} {k n : Nat} {gt : Nat → Nat} (h : Rwi base W v k n gt) (hb : Below W.heap.size W W') : Rwi base W' v k n gt :=
  ⟨own_kept h.own (fun b _ hl => hb.block b hl), h.lo, fun i hi => Nat.lt_of_lt_of_le (h.hi i hi) hb.size, h.out, fun i hi j hj => cell_kept (fun hl => hb.block _ hl) (h.cell i hi j hj), fun i hi o => (World.frozen?_of_block (a := ⟨gt i, o, none⟩) (hb.block _ (h.hi i hi))).trans (h.fro i hi o), h.inj⟩
theorem Rwi.more {base : Nat} {W W2 w6 : World} {v : Value} {k n : Nat} {gt : Nat → Nat} (h : Rwi base W v k n gt) {H : Nat} (hW : Below W.heap.size W W2) (hH0 : base ≤ H) (hH1 : W.heap.size ≤ H) (hH2 : H < W2.heap.size)
    (hc : ∀ j, j < n → W2.cell? ⟨H, j, none⟩ = some (.int .i64 0)) (hf : ∀ o, W2.frozen? ⟨H, o, none⟩ = false)
    {g cap : Nat} (hown : w6.ownsRow base 39 1 (.slice (some ⟨g, 0, none⟩) (k + 1) cap) (k + 1) ((List.range k).map (rowV gt n) ++ [.slice (some ⟨H, 0, none⟩) n n])) (hgrow : W2.grownBy w6 v.ownBlock) (hat : v.ownBlock = some g ∨ g = W2.heap.size) :
    Rwi base w6 (.slice (some ⟨g, 0, none⟩) (k + 1) cap) (k + 1) n (fun i => if i = k then H else gt i) := by
  have h2 := h.below hW
  have hvb : ∀ q, v.ownBlock = some q → q < W.heap.size := fun q e => (h.own.lt q e).2
  have hgH : ∀ q, q < W2.heap.size → v.ownBlock ≠ some q → w6.heap[q]? = W2.heap[q]? := fun q hl hne => hgrow.block q hl (fun e => hne e.symm)
  have hneH : v.ownBlock ≠ some H := fun e => by have := hvb H e; omega
  have hgne : ∀ i, i < k → g ≠ gt i := fun i hi e => by
    rcases hat with q | q
    · exact h.out i hi (by rw [q, e])
    · have := h2.hi i hi; omega
  refine ⟨?_, fun i hi => ?_, fun i hi => ?_, fun i hi => ?_, fun i hi j hj => ?_, fun i hi o => ?_, fun i j hi hj e => ?_⟩
  · have e : (List.range (k + 1)).map (rowV (fun i => if i = k then H else gt i) n) = (List.range k).map (rowV gt n) ++ [.slice (some ⟨H, 0, none⟩) n n] := by
      rw [List.range_succ, List.map_append]
      congr 1
      · refine List.map_congr_left (fun i hi => ?_)
        have : i < k := List.mem_range.1 hi
        simp [rowV, show i ≠ k by omega]
      · simp [rowV]
    rw [e]
    exact hown
  · split
    · exact hH0
    · exact h.lo i (by omega)
  · split
    · exact Nat.lt_of_lt_of_le hH2 hgrow.size
    · exact Nat.lt_of_lt_of_le (h2.hi i (by omega)) hgrow.size
  · simp only [Value.ownBlock, ne_eq, Option.some.injEq]
    split
    · rintro rfl
      rcases hat with q | q
      · exact hneH q
      · omega
    · exact hgne i (by omega)
  · split
    · exact (World.cell?_of_block (a := ⟨H, j, none⟩) (hgH H hH2 hneH)).trans (hc j hj)
    · exact (World.cell?_of_block (a := ⟨gt i, j, none⟩) (hgH _ (h2.hi i (by omega)) (h.out i (by omega)))).trans (h2.cell i (by omega) j hj)
  · split
    · exact (World.frozen?_of_block (a := ⟨H, o, none⟩) (hgH H hH2 hneH)).trans (hf o)
    · exact (World.frozen?_of_block (a := ⟨gt i, o, none⟩) (hgH _ (h2.hi i (by omega)) (h.out i (by omega)))).trans (h2.fro i (by omega) o)
  · split at e <;> split at e
    · omega
    · have := h.hi j (by omega); omega
    · have := h.hi i (by omega); omega
    · exact h.inj i j (by omega) (by omega) e
theorem Rwi.rowcell {base : Nat} {W : World} {v : Value} {k n : Nat} {gt : Nat → Nat} (h : Rwi base W v k n gt) {i : Nat} (hi : i < k) : ∃ g c, v = .slice (some ⟨g, 0, none⟩) k c ∧ base ≤ g ∧ g < W.heap.size ∧ (∀ j, j < k → g ≠ gt j) ∧ ∀ j, j < k → W.cell? ⟨g, j, none⟩ = some (rowV gt n j) := by
  obtain ⟨g, c, rfl, h1, h2, hat, _⟩ := own_at h.own (by omega)
  refine ⟨g, c, rfl, h1, h2, fun j hj e => h.out j hj (by rw [← e]; rfl), fun j hj => ?_⟩
  have := hat j (rowV gt n j) (by rw [List.getElem?_map, List.getElem?_range hj]; rfl)
  rwa [Nat.zero_add] at this

/-! ### the two tables: truths below gB, numbers from gB on -/
structure Ts (W3 W : World) (gB n gO : Nat) (gs : Nat → Nat) (hO : Nat) (gt : Nat → Nat) (M : Nat → Nat → Bool) (nums : Nat → Nat → Nat) : Prop where
  os : W.os = W3.os
  tape : W.tape = W3.tape
  output : W.output = W3.output
  size : W3.heap.size ≤ W.heap.size
  block : ∀ b, b < gB → (∀ i, i < n → b ≠ gs i) → W.heap[b]? = W3.heap[b]?
  mrow : ∀ i, i < n → W.cell? ⟨gO, i, none⟩ = some (rowV gs n i)
  m : ∀ i, i < n → ∀ j, j < n → W.cell? ⟨gs i, j, none⟩ = some (.bool (M i j))
  mf : ∀ i, i < n → ∀ o, W.frozen? ⟨gs i, o, none⟩ = false
  nrow : ∀ i, i < n → W.cell? ⟨hO, i, none⟩ = some (rowV gt n i)
  num : ∀ i, i < n → ∀ j, j < n → W.cell? ⟨gt i, j, none⟩ = some (.int .i64 (nums i j : Nat))
  nf : ∀ i, i < n → ∀ o, W.frozen? ⟨gt i, o, none⟩ = false
/-- where the two tables stand -/
structure Tw (gB n gO : Nat) (gs : Nat → Nat) (hO : Nat) (gt : Nat → Nat) : Prop where
  gsB : ∀ i, i < n → gs i < gB
  gOB : 0 < n → gO < gB
  gOs : ∀ i, i < n → gO ≠ gs i
  gsi : ∀ i j, i < n → j < n → gs i = gs j → i = j
  gtB : ∀ i, i < n → gB ≤ gt i
  hOB : 0 < n → gB ≤ hO
  hOt : ∀ i, i < n → hO ≠ gt i
  gti : ∀ i j, i < n → j < n → gt i = gt j → i = j
theorem Ts.tbl {W3 W : World} {gB n gO hO : Nat} {gs gt : Nat → Nat} {M : Nat → Nat → Bool} {nums : Nat → Nat → Nat} (h : Ts W3 W gB n gO gs hO gt M nums) : Tbl W gO n gs M := ⟨h.mrow, h.m⟩
theorem Ts.step {W3 W W' : World} {gB n gO hO : Nat} {gs gt : Nat → Nat} {M : Nat → Nat → Bool} {nums : Nat → Nat → Nat} (h : Ts W3 W gB n gO gs hO gt M nums) (hB : gB ≤ W.heap.size) (hb : Below W.heap.size W W') : Ts W3 W' gB n gO gs hO gt M nums := by
  have hl : ∀ i, i < n → gs i < W.heap.size := fun i hi => lt_of_cell (h.m i hi i hi)
  have hl2 : ∀ i, i < n → gt i < W.heap.size := fun i hi => lt_of_cell (h.num i hi i hi)
  exact ⟨hb.os.trans h.os, hb.tape.trans h.tape, hb.output.trans h.output, Nat.le_trans h.size hb.size, fun b hb2 hne => (hb.block b (by omega)).trans (h.block b hb2 hne), fun i hi => cell_kept (fun hl => hb.block _ hl) (h.mrow i hi), fun i hi j hj => cell_kept (fun hl => hb.block _ hl) (h.m i hi j hj), fun i hi o => (World.frozen?_of_block (a := ⟨gs i, o, none⟩) (hb.block _ (hl i hi))).trans (h.mf i hi o), fun i hi => cell_kept (fun hl => hb.block _ hl) (h.nrow i hi), fun i hi j hj => cell_kept (fun hl => hb.block _ hl) (h.num i hi j hj), fun i hi o => (World.frozen?_of_block (a := ⟨gt i, o, none⟩) (hb.block _ (hl2 i hi))).trans (h.nf i hi o)⟩
def set1F (M : Nat → Nat → Bool) (a b : Nat) : Nat → Nat → Bool := fun i j => if i = a ∧ j = b then false else M i j
def set1N (nums : Nat → Nat → Nat) (a b k : Nat) : Nat → Nat → Nat := fun i j => if i = a ∧ j = b then k else nums i j
theorem set2F (M : Nat → Nat → Bool) (a b : Nat) : set1F (set1F M a b) b a = setF M a b := by
  funext i j
  unfold set1F setF
  by_cases h1 : i = b ∧ j = a
  · rw [if_pos h1, if_pos (.inr h1)]
  · rw [if_neg h1]
    by_cases h2 : i = a ∧ j = b
    · rw [if_pos h2, if_pos (.inl h2)]
    · rw [if_neg h2, if_neg (fun q => q.elim h2 h1)]
theorem set2N (nums : Nat → Nat → Nat) (a b k : Nat) : set1N (set1N nums a b k) b a k = setN nums a b k := by
  funext i j
  unfold set1N setN
  by_cases h1 : i = b ∧ j = a
  · rw [if_pos h1, if_pos (.inr h1)]
  · rw [if_neg h1]
    by_cases h2 : i = a ∧ j = b
    · rw [if_pos h2, if_pos (.inl h2)]
    · rw [if_neg h2, if_neg (fun q => q.elim h2 h1)]
theorem Ts.putM {W3 W : World} {gB n gO hO : Nat} {gs gt : Nat → Nat} {M : Nat → Nat → Bool} {nums : Nat → Nat → Nat} (h : Ts W3 W gB n gO gs hO gt M nums) (hw : Tw gB n gO gs hO gt) {a b : Nat} (ha : a < n) (hb : b < n) : Ts W3 (W.setCell ⟨gs a, b, none⟩ (.bool false)) gB n gO gs hO gt (set1F M a b) nums := by
  refine ⟨h.os, h.tape, h.output, by simp [World.setCell]; exact h.size, fun q hq hne => (Below.heap_setCell _ _ _ _ (by show q ≠ gs a; exact hne a ha)).trans (h.block q hq hne), fun i hi => (World.cell?_setCell_other _ _ _ _ (fun e => hw.gOs a ha (by injection e with e1 e2; exact e1.symm))).trans (h.mrow i hi), fun i hi j hj => ?_, fun i hi o => (World.frozen?_setCell _ _ _ _).trans (h.mf i hi o), fun i hi => (World.cell?_setCell_other _ _ _ _ (fun e => by have := hw.gsB a ha; have := hw.hOB (by omega); injection e with e1 e2; omega)).trans (h.nrow i hi), fun i hi j hj => (World.cell?_setCell_other _ _ _ _ (fun e => by have := hw.gsB a ha; have := hw.gtB i hi; injection e with e1 e2; omega)).trans (h.num i hi j hj), fun i hi o => (World.frozen?_setCell _ _ _ _).trans (h.nf i hi o)⟩
  unfold set1F
  by_cases e : i = a ∧ j = b
  · rw [if_pos e, e.1, e.2]
    exact World.cell?_setCell_same _ _ _ (h.m a ha b hb)
  · rw [if_neg e]
    exact (World.cell?_setCell_other _ _ _ _ (fun q => e (by injection q with q1 q2; exact ⟨(hw.gsi a i ha hi q1).symm, q2.symm⟩))).trans (h.m i hi j hj)
theorem Ts.putN {W3 W : World} {gB n gO hO : Nat} {gs gt : Nat → Nat} {M : Nat → Nat → Bool} {nums : Nat → Nat → Nat} (h : Ts W3 W gB n gO gs hO gt M nums) (hw : Tw gB n gO gs hO gt) {a b : Nat} (ha : a < n) (hb : b < n) (k : Nat) : Ts W3 (W.setCell ⟨gt a, b, none⟩ (.int .i64 (k : Int))) gB n gO gs hO gt M (set1N nums a b k) := by
  refine ⟨h.os, h.tape, h.output, by simp [World.setCell]; exact h.size, fun q hq hne => (Below.heap_setCell _ _ _ _ (by show q ≠ gt a; have := hw.gtB a ha; omega)).trans (h.block q hq hne), fun i hi => (World.cell?_setCell_other _ _ _ _ (fun e => by have := hw.gtB a ha; have := hw.gOB (by omega); injection e with e1 e2; omega)).trans (h.mrow i hi), fun i hi j hj => (World.cell?_setCell_other _ _ _ _ (fun e => by have := hw.gtB a ha; have := hw.gsB i hi; injection e with e1 e2; omega)).trans (h.m i hi j hj), fun i hi o => (World.frozen?_setCell _ _ _ _).trans (h.mf i hi o), fun i hi => (World.cell?_setCell_other _ _ _ _ (fun e => hw.hOt a ha (by injection e with e1 e2; exact e1.symm))).trans (h.nrow i hi), fun i hi j hj => ?_, fun i hi o => (World.frozen?_setCell _ _ _ _).trans (h.nf i hi o)⟩
  unfold set1N
  by_cases e : i = a ∧ j = b
  · rw [if_pos e, e.1, e.2]
    exact World.cell?_setCell_same _ _ _ (h.num a ha b hb)
  · rw [if_neg e]
    exact (World.cell?_setCell_other _ _ _ _ (fun q => e (by injection q with q1 q2; exact ⟨(hw.gti a i ha hi q1).symm, q2.symm⟩))).trans (h.num i hi j hj)
end Go.Proofs.YtbaljljlahhkfaaGreatDoor
