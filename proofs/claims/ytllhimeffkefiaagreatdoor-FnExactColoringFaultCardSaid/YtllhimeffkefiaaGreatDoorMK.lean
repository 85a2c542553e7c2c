/- Texts of one proof, joined in their order: each bears its own word of what it holds and on what condition. -/
import Derived.Test.YtllhimeffkefiaaGreatDoorMJ
import Derived.Test.YtllhimeffkefiaaGreatDoorMI
import Derived.Deep.AppendLies
import Derived.Deep.Cut
import Derived.Deep.LoopGhost
set_option linter.unusedVariables false
set_option linter.unusedSimpArgs false
/- A table of truths in rows of the call's own, while it grows and is set; what the links of a graph are. No walk here. -/
set_option linter.unusedVariables false
namespace Go.Proofs.YtllhimeffkefiaaGreatDoor
open Go.RowKit Go.Sort

theorem madeCells_one (z : Value) (n j : Nat) (hj : j < n) : (madeCells #[z] n)[j]? = some z := by
  simp [madeCells, hj, Nat.mod_one]
theorem make_one {T E : Nat} {z : Value} {by' : Nat} (ht : Tryz.prog.underlying T = some (.slice E)) (hin : (Tryz.prog.info? E).map (fun i => (i.zero, i.size, i.bytes)) = some (some z, 1, by')) (hzc : z.cells = #[z]) (hz : by' ≤ 1000) (n : Nat) (hn : n ≤ 1048576) :
    ∃ C : Array Value, C.size = n ∧ (∀ j, j < n → C[j]? = some z) ∧ ∀ w, (Instr.makeSlice T (.int .i64 n) (.int .i64 n)).run Tryz.prog w = .ok (.slice (some ⟨w.heap.size, 0, none⟩) n n) (w.alloc (.cells C E)) := by
  obtain ⟨i, hi, hz0, hz1, hz2⟩ := info_parts hin
  have hm : by' * n ≤ 1000 * 1048576 := Nat.mul_le_mul hz hn
  have hb : (i.bytes : Int) * (n : Int) ≤ 281474976710656 := by
    have h : ((by' * n : Nat) : Int) ≤ 281474976710656 := by omega
    rw [hz2]
    rwa [Int.natCast_mul] at h
  refine ⟨madeCells z.cells (n * 1), by simp [madeCells], fun j hj => ?_, fun w => ?_⟩
  · rw [hzc, Nat.mul_one]
    exact madeCells_one z n j hj
  · have := run_make (P := Tryz.prog) w T E i _ ht hi hz0 .i64 .i64 n n (by omega) (by omega) hb (by omega)
    rw [hz1] at this
    simpa using this
def rowV (gs : Nat → Nat) (n : Nat) (i : Nat) : Value := .slice (some ⟨gs i, 0, none⟩) n n
/-- k rows of n truths each -/
structure Mx (base : Nat) (W : World) (v : Value) (k n : Nat) (gs : Nat → Nat) (M : Nat → Nat → Bool) : Prop where
  own : W.ownsRow base 68 1 v k ((List.range k).map (rowV gs n))
  lo : ∀ i, i < k → base ≤ gs i
  hi : ∀ i, i < k → gs i < W.heap.size
  out : ∀ i, i < k → v.ownBlock ≠ some (gs i)
  cell : ∀ i, i < k → ∀ j, j < n → W.cell? ⟨gs i, j, none⟩ = some (.bool (M i j))
  fro : ∀ i, i < k → ∀ o, W.frozen? ⟨gs i, o, none⟩ = false
  inj : ∀ i j, i < k → j < k → gs i = gs j → i = j
theorem Mx.nil (base : Nat) (W : World) (n : Nat) (gs : Nat → Nat) (M : Nat → Nat → Bool) : Mx base W (.slice none 0 0) 0 n gs M :=
  ⟨World.ownsRow_nil _ _ _ _, fun i h => by omega, fun i h => by omega, fun i h => by omega, fun i h => by omega, fun i h => by omega, fun i j h => by omega⟩
theorem Mx.kept {base : Nat} {W W' : World} {v : Value} {k n : Nat} {gs : Nat → Nat} {M : Nat → Nat → Bool} (h : Mx base W v k n gs M) (hz : W.heap.size ≤ W'.heap.size) (hk : ∀ b, base ≤ b → b < W.heap.size → W'.heap[b]? = W.heap[b]?) : Mx base W' v k n gs M :=
  ⟨own_kept h.own hk, h.lo, fun i hi => Nat.lt_of_lt_of_le (h.hi i hi) hz, h.out, fun i hi j hj => (World.cell?_of_block (a := ⟨gs i, j, none⟩) (hk _ (h.lo i hi) (h.hi i hi))).trans (h.cell i hi j hj),
    fun i hi o => (World.frozen?_of_block (a := ⟨gs i, o, none⟩) (hk _ (h.lo i hi) (h.hi i hi))).trans (h.fro i hi o), h.inj⟩
theorem Mx.below {base : Nat} {W W' : World} {v : Value} {k n : Nat} {gs : Nat → Nat} {M : Nat → Nat → Bool} (h : Mx base W v k n gs M) (hb : Below W.heap.size W W') : Mx base W' v k n gs M := h.kept hb.size fun b _ hl => hb.block b hl
theorem Mx.set1 {base : Nat} {W : World} {v : Value} {k n : Nat} {gs : Nat → Nat} {M : Nat → Nat → Bool} (h : Mx base W v k n gs M) {a : Addr} (ha : a.block < base) (u : Value) : Mx base (W.setCell a u) v k n gs M :=
  h.kept (by simp [World.setCell]) fun b hb _ => Below.heap_setCell _ _ _ _ (by omega)
def updM (M : Nat → Nat → Bool) (i j : Nat) : Nat → Nat → Bool := fun a b => if a = i ∧ b = j then true else M a b
/-- a truth is set -/
theorem Mx.put {base : Nat} {W : World} {v : Value} {k n : Nat} {gs : Nat → Nat} {M : Nat → Nat → Bool} (h : Mx base W v k n gs M) {i j : Nat} (hi : i < k) (hj : j < n) : Mx base (W.setCell ⟨gs i, j, none⟩ (.bool true)) v k n gs (updM M i j) := by
  have hc := h.cell i hi j hj
  refine ⟨?_, h.lo, fun a ha => by rw [show (W.setCell ⟨gs i, j, none⟩ (.bool true)).heap.size = W.heap.size by simp [World.setCell]]; exact h.hi a ha, h.out, fun a ha b hb => ?_, fun a ha o => (World.frozen?_setCell _ _ _ _).trans (h.fro a ha o), h.inj⟩
  · refine ⟨h.own.1, ?_⟩
    rcases h.own.2 with hn | ⟨g, cap, cur, rfl, hb, hgg, rest⟩
    · exact .inl hn
    · exact .inr ⟨g, cap, cur, rfl, hb, (Below.heap_setCell _ _ _ _ (fun e => h.out i hi (by simp [Value.ownBlock, e]))).trans hgg, rest⟩
  · unfold updM
    by_cases e : a = i ∧ b = j
    · obtain ⟨rfl, rfl⟩ := e
      rw [if_pos ⟨rfl, rfl⟩]
      exact World.cell?_setCell_same _ _ _ hc
    · rw [if_neg e]
      refine (World.cell?_setCell_other _ _ _ _ (fun q => e ?_)).trans (h.cell a ha b hb)
      injection q with q1 q2 _
      exact ⟨h.inj a i ha hi (by omega), by omega⟩
/-- a row more -/
theorem Mx.more {base : Nat} {W W2 w6 : World} {v : Value} {k n : Nat} {gs : Nat → Nat} {M : Nat → Nat → Bool} (h : Mx base W v k n gs M) {H : Nat} (hH : base ≤ H) (hW : Below W.heap.size W W2) (hH1 : W.heap.size ≤ H) (hH2 : H < W2.heap.size)
    (hc : ∀ j, j < n → W2.cell? ⟨H, j, none⟩ = some (.bool false)) (hf : ∀ o, W2.frozen? ⟨H, o, none⟩ = false)
    {g cap : Nat} (hown : w6.ownsRow base 68 1 (.slice (some ⟨g, 0, none⟩) (k + 1) cap) (k + 1) ((List.range k).map (rowV gs n) ++ [.slice (some ⟨H, 0, none⟩) n n])) (hgrow : W2.grownBy w6 v.ownBlock) (hat : v.ownBlock = some g ∨ g = W2.heap.size) :
    Mx base w6 (.slice (some ⟨g, 0, none⟩) (k + 1) cap) (k + 1) n (fun i => if i = k then H else gs i) (fun i j => if i = k then false else M i j) := by
  have h2 := h.below hW
  have hvb : ∀ q, v.ownBlock = some q → q < W.heap.size := fun q e => (h.own.lt q e).2
  have hgH : ∀ q, base ≤ q → q < W2.heap.size → v.ownBlock ≠ some q → w6.heap[q]? = W2.heap[q]? := fun q _ hl hne => hgrow.block q hl (fun e => hne e.symm)
  have hneH : v.ownBlock ≠ some H := fun e => by have := hvb H e; omega
  have hgne : ∀ i, i < k → g ≠ gs i := fun i hi e => by
    rcases hat with q | q
    · exact h.out i hi (by rw [q, e])
    · have := h2.hi i hi; omega
  refine ⟨?_, fun i hi => ?_, fun i hi => ?_, fun i hi => ?_, fun i hi j hj => ?_, fun i hi o => ?_, fun i j hi hj e => ?_⟩
  · have e : (List.range (k + 1)).map (rowV (fun i => if i = k then H else gs i) n) = (List.range k).map (rowV gs n) ++ [.slice (some ⟨H, 0, none⟩) n n] := by
      rw [List.range_succ, List.map_append]
      congr 1
      · refine List.map_congr_left (fun i hi => ?_)
        have : i < k := List.mem_range.1 hi
        simp [rowV, show i ≠ k by omega]
      · simp [rowV]
    rw [e]
    exact hown
  · split
    · exact hH
    · exact h.lo i (by omega)
  · split
    · exact Nat.lt_of_lt_of_le hH2 hgrow.size
    · exact Nat.lt_of_lt_of_le (h2.hi i (by omega)) hgrow.size
  · simp only [Value.ownBlock, ne_eq, Option.some.injEq]
    split
    · rintro rfl
      rcases hat with q | q
      · exact hneH q
      · omega
    · exact hgne i (by omega)
  · split
    · exact (World.cell?_of_block (a := ⟨H, j, none⟩) (hgH H hH hH2 hneH)).trans (hc j hj)
    · exact (World.cell?_of_block (a := ⟨gs i, j, none⟩) (hgH _ (h.lo i (by omega)) (h2.hi i (by omega)) (h.out i (by omega)))).trans (h2.cell i (by omega) j hj)
  · split
    · exact (World.frozen?_of_block (a := ⟨H, o, none⟩) (hgH H hH hH2 hneH)).trans (hf o)
    · exact (World.frozen?_of_block (a := ⟨gs i, o, none⟩) (hgH _ (h.lo i (by omega)) (h2.hi i (by omega)) (h.out i (by omega)))).trans (h2.fro i (by omega) o)
  · split at e <;> split at e
    · omega
    · have := h.hi j (by omega); omega
    · have := h.hi i (by omega); omega
    · exact h.inj i j (by omega) (by omega) e

/-! ### links -/
theorem posN_get : ∀ (ns : List Nd) (id : Int) (k : Nat), thr ns id = true → ∃ (p : Nat) (hp : p < ns.length), posN ns id k = ((k + p : Nat) : Int) ∧ ns[p].id = id
  | [], id, k, h => by simp [thr] at h
  | x :: xs, id, k, h => by
    unfold posN
    by_cases e : x.id = id
    · rw [if_pos e]
      exact ⟨0, by simp, rfl, e⟩
    · rw [if_neg e]
      obtain ⟨p, hp, h1, h2⟩ := posN_get xs id (k + 1) (by simpa [thr, e] using h)
      exact ⟨p + 1, by simp; omega, by rw [h1]; congr 1; omega, by simpa using h2⟩
/-- is there an edge between the nodes at places i and j, either way, the two not one? -/
def lnk (ns : List Nd) (e : Ed) (i j : Nat) : Bool :=
  decide (posN ns e.src 0 ≠ posN ns e.dst 0) && ((decide (posN ns e.src 0 = i) && decide (posN ns e.dst 0 = j)) || (decide (posN ns e.dst 0 = i) && decide (posN ns e.src 0 = j)))
def lnks (ns : List Nd) (es : List Ed) (i j : Nat) : Bool := es.any fun e => lnk ns e i j
theorem lnks_snoc (ns : List Nd) (es : List Ed) {k : Nat} (hk : k < es.length) (i j : Nat) : lnks ns (es.take (k + 1)) i j = (lnks ns (es.take k) i j || lnk ns es[k] i j) := by
  unfold lnks
  rw [List.take_succ_eq_append_getElem hk, List.any_append]
  simp
end Go.Proofs.YtllhimeffkefiaaGreatDoor
/- The specification's links of a graph, both ways. Condition: a right graph. -/
set_option linter.unusedVariables false
set_option linter.unusedSimpArgs false
namespace Go.Proofs.YtllhimeffkefiaaGreatDoor
open Go.RowKit Go.Sort

/-- within l16Linked: the graph's box, the result's box, the links' box, the table -/
structure Lk (w W : World) (v1 v2 v : Value) (k n : Nat) (gs : Nat → Nat) (M : Nat → Nat → Bool) : Prop where
  below : Below w.heap.size w W
  g0 : W.cell? ⟨w.heap.size, 0, none⟩ = some v1
  g1 : W.cell? ⟨w.heap.size, 1, none⟩ = some v2
  r4 : W.cell? ⟨w.heap.size + 1, 0, none⟩ = some (.slice none 0 0)
  f4 : W.frozen? ⟨w.heap.size + 1, 0, none⟩ = false
  c5 : W.cell? ⟨w.heap.size + 1 + 1, 0, none⟩ = some v
  f5 : W.frozen? ⟨w.heap.size + 1 + 1, 0, none⟩ = false
  mx : Mx (w.heap.size + 3) W v k n gs M
theorem Lk.hz {w W : World} {v1 v2 v : Value} {k n : Nat} {gs : Nat → Nat} {M : Nat → Nat → Bool} (h : Lk w W v1 v2 v k n gs M) : w.heap.size + 3 ≤ W.heap.size := by have := lt_of_cell h.c5; omega
theorem Lk.step {w W W' : World} {v1 v2 v : Value} {k n : Nat} {gs : Nat → Nat} {M : Nat → Nat → Bool} (h : Lk w W v1 v2 v k n gs M) (hb : Below W.heap.size W W') : Lk w W' v1 v2 v k n gs M :=
  ⟨h.below.trans (hb.mono h.below.size), cell_kept (fun hl => hb.block _ hl) h.g0, cell_kept (fun hl => hb.block _ hl) h.g1, cell_kept (fun hl => hb.block _ hl) h.r4, (World.frozen?_of_block (a := ⟨w.heap.size + 1, 0, none⟩) (hb.block _ (lt_of_cell h.r4))).trans h.f4, cell_kept (fun hl => hb.block _ hl) h.c5, (World.frozen?_of_block (a := ⟨w.heap.size + 1 + 1, 0, none⟩) (hb.block _ (lt_of_cell h.c5))).trans h.f5, h.mx.below hb⟩
theorem Lk.put {w W : World} {v1 v2 v : Value} {k n : Nat} {gs : Nat → Nat} {M : Nat → Nat → Bool} (h : Lk w W v1 v2 v k n gs M) {i j : Nat} (hi : i < k) (hj : j < n) : Lk w (W.setCell ⟨gs i, j, none⟩ (.bool true)) v1 v2 v k n gs (updM M i j) := by
  have hlo := h.mx.lo i hi
  have ho : ∀ b o, b < w.heap.size + 3 → (W.setCell ⟨gs i, j, none⟩ (.bool true)).cell? ⟨b, o, none⟩ = W.cell? ⟨b, o, none⟩ := fun b o hb => World.cell?_setCell_other _ _ _ _ (fun e => by injection e with e; omega)
  have hbl : Below w.heap.size w (W.setCell ⟨gs i, j, none⟩ (.bool true)) := ⟨h.below.os, h.below.tape, h.below.output, by simp [World.setCell]; exact h.below.size, fun b hb => (Below.heap_setCell _ _ _ _ (by show b ≠ gs i; omega)).trans (h.below.block b hb)⟩
  exact ⟨hbl, (ho _ _ (by omega)).trans h.g0, (ho _ _ (by omega)).trans h.g1, (ho _ _ (by omega)).trans h.r4, (World.frozen?_setCell _ _ _ _).trans h.f4, (ho _ _ (by omega)).trans h.c5, (World.frozen?_setCell _ _ _ _).trans h.f5, h.mx.put hi hj⟩
theorem Lk.more {w wr W2 w6 : World} {v1 v2 v : Value} {k n : Nat} {gs : Nat → Nat} {M : Nat → Nat → Bool} (L : Lk w wr v1 v2 v k n gs M) (hW : Below wr.heap.size wr W2) {H : Nat} (hH1 : wr.heap.size ≤ H) (hH2 : H < W2.heap.size)
    (hc : ∀ j, j < n → W2.cell? ⟨H, j, none⟩ = some (.bool false)) (hf : ∀ o, W2.frozen? ⟨H, o, none⟩ = false)
    {g cap : Nat} (hown : w6.ownsRow (w.heap.size + 3) 68 1 (.slice (some ⟨g, 0, none⟩) (k + 1) cap) (k + 1) ((List.range k).map (rowV gs n) ++ [.slice (some ⟨H, 0, none⟩) n n])) (hgrow : W2.grownBy w6 v.ownBlock) (hat : v.ownBlock = some g ∨ g = W2.heap.size) :
    (w6.cell? ⟨w.heap.size + 1 + 1, 0, none⟩ = some v ∧ w6.frozen? ⟨w.heap.size + 1 + 1, 0, none⟩ = false) ∧
    Lk w (w6.setCell ⟨w.heap.size + 1 + 1, 0, none⟩ (.slice (some ⟨g, 0, none⟩) (k + 1) cap)) v1 v2 (.slice (some ⟨g, 0, none⟩) (k + 1) cap) (k + 1) n (fun i => if i = k then H else gs i) (fun i j => if i = k then false else M i j) := by
  have L2 := L.step hW
  have hz := L.hz
  have hz2 := L2.hz
  have hm := L.mx.more (by omega) hW hH1 hH2 hc hf hown hgrow hat
  have hob : ∀ q, v.ownBlock = some q → w.heap.size + 3 ≤ q := fun q e => (L.mx.own.lt q e).1
  have hk : ∀ b, b < w.heap.size + 3 → w6.heap[b]? = W2.heap[b]? := fun b hb => hgrow.block b (by omega) (fun e => by have := hob b e.symm; omega)
  have ho : ∀ b, b < w.heap.size + 3 → b ≠ w.heap.size + 1 + 1 → ∀ o, (w6.setCell ⟨w.heap.size + 1 + 1, 0, none⟩ (.slice (some ⟨g, 0, none⟩) (k + 1) cap)).cell? ⟨b, o, none⟩ = W2.cell? ⟨b, o, none⟩ := fun b hb hne o => (World.cell?_setCell_other _ _ _ _ (fun e => by injection e with e; omega)).trans (World.cell?_of_block (a := ⟨b, o, none⟩) (hk b hb))
  have c5 : w6.cell? ⟨w.heap.size + 1 + 1, 0, none⟩ = some v := (World.cell?_of_block (a := ⟨w.heap.size + 1 + 1, 0, none⟩) (hk (w.heap.size + 1 + 1) (by omega))).trans L2.c5
  have f5 : w6.frozen? ⟨w.heap.size + 1 + 1, 0, none⟩ = false := (World.frozen?_of_block (a := ⟨w.heap.size + 1 + 1, 0, none⟩) (hk (w.heap.size + 1 + 1) (by omega))).trans L2.f5
  refine ⟨⟨c5, f5⟩, ?_, (ho _ (by omega) (by omega) _).trans L2.g0, (ho _ (by omega) (by omega) _).trans L2.g1, (ho _ (by omega) (by omega) _).trans L2.r4, (World.frozen?_setCell _ _ _ _).trans ((World.frozen?_of_block (a := ⟨w.heap.size + 1, 0, none⟩) (hk (w.heap.size + 1) (by omega))).trans L2.f4), World.cell?_setCell_same _ _ _ c5, (World.frozen?_setCell _ _ _ _).trans f5, hm.set1 (by show w.heap.size + 1 + 1 < w.heap.size + 3; omega) _⟩
  exact ⟨hgrow.os.trans L2.below.os, hgrow.tape.trans L2.below.tape, hgrow.output.trans L2.below.output, by
    rw [show (w6.setCell ⟨w.heap.size + 1 + 1, 0, none⟩ (.slice (some ⟨g, 0, none⟩) (k + 1) cap)).heap.size = w6.heap.size by simp [World.setCell]]; exact Nat.le_trans L2.below.size hgrow.size, fun b hb => (Below.heap_setCell _ _ _ _ (by show b ≠ w.heap.size + 1 + 1; omega)).trans ((hk b (by omega)).trans (L2.below.block b hb))⟩
theorem Mx.rowcell {base : Nat} {W : World} {v : Value} {k n : Nat} {gs : Nat → Nat} {M : Nat → Nat → Bool} (h : Mx base W v k n gs M) {i : Nat} (hi : i < k) : ∃ g c, v = .slice (some ⟨g, 0, none⟩) k c ∧ (∀ i, i < k → W.cell? ⟨g, i, none⟩ = some (rowV gs n i)) := by
  rcases h.own.2 with ⟨rfl, hn⟩ | ⟨g, cap, cur, rfl, hb, hgg, hc, hm, hs, ht⟩
  · omega
  · refine ⟨g, cap, rfl, fun i hi => ?_⟩
    have e : (cur.toList.take (k * 1))[i]? = some (rowV gs n i) := by rw [ht]; simp [hi]
    rw [List.getElem?_take, if_pos (by omega)] at e
    have := World.news_of_block hgg i _ e
    rw [Addr.add_lit] at this
    rw [Nat.zero_add] at this
    exact this
theorem Mx.lower {base base' : Nat} {W : World} {v : Value} {k n : Nat} {gs : Nat → Nat} {M : Nat → Nat → Bool} (h : Mx base W v k n gs M) (hb : base' ≤ base) : Mx base' W v k n gs M := by
  refine ⟨⟨h.own.1, ?_⟩, fun i hi => Nat.le_trans hb (h.lo i hi), h.hi, h.out, h.cell, h.fro, h.inj⟩
  rcases h.own.2 with hn | ⟨g, cap, cur, rfl, hbg, rest⟩
  · exact .inl hn
  · exact .inr ⟨g, cap, cur, rfl, Nat.le_trans hb hbg, rest⟩
def LinkR (ns : List Nd) (es : List Ed) (w : World) (e : Ending) (w' : World) : Prop := ∃ v gs, e = .returned (.agg #[v]) ∧ Mx w.heap.size w' v ns.length ns.length gs (lnks ns es) ∧ Below w.heap.size w w'
theorem updM_lnk {ns : List Nd} {es : List Ed} {k p q : Nat} (hk : k < es.length) (hp : posN ns es[k].src 0 = p) (hq : posN ns es[k].dst 0 = q) (hne : p ≠ q) : updM (updM (lnks ns (es.take k)) p q) q p = lnks ns (es.take (k + 1)) := by
  funext i j
  rw [lnks_snoc _ _ hk]
  unfold updM lnk
  rw [hp, hq]
  by_cases h1 : i = q ∧ j = p
  · obtain ⟨rfl, rfl⟩ := h1
    simp [hne]
    exact .inr (fun e => hne (by omega))
  · rw [if_neg h1]
    by_cases h2 : i = p ∧ j = q
    · obtain ⟨rfl, rfl⟩ := h2
      simp [hne]
      exact .inr (fun e => hne (by omega))
    · rw [if_neg h2]
      have e1 : (decide ((p : Int) = i) && decide ((q : Int) = j)) = false := by
        rw [Bool.and_eq_false_iff, decide_eq_false_iff_not, decide_eq_false_iff_not]
        omega
      have e2 : (decide ((q : Int) = i) && decide ((p : Int) = j)) = false := by
        rw [Bool.and_eq_false_iff, decide_eq_false_iff_not, decide_eq_false_iff_not]
        omega
      rw [e1, e2]
      simp
theorem lnks_same {ns : List Nd} {es : List Ed} {k p : Nat} (hk : k < es.length) (hp : posN ns es[k].src 0 = p) (hq : posN ns es[k].dst 0 = p) : lnks ns (es.take k) = lnks ns (es.take (k + 1)) := by
  funext i j
  rw [lnks_snoc _ _ hk]
  unfold lnk
  rw [hp, hq]
  simp
set_option maxHeartbeats 2000000 in
set_option maxRecDepth 100000 in
theorem linked_gw (w : World) (S : Nat → Prop) (v : Value) (g : Gr) (h : RGr w S v g) (hok : Gw g) : Calls Tryz.prog 37 #[v, .bool true] w (LinkR g.nodes g.edges w) := by
  obtain ⟨v1, v2, rfl, h1, h2⟩ := h
  have hl1 := hok.n
  have hl2 := hok.e
  have hends := hok.ends
  clear hok
  obtain ⟨ns, es⟩ := g
  obtain ⟨a1, c1, rfl⟩ := h1.shape
  obtain ⟨a2, c2, rfl⟩ := h2.shape
  simp only at h1 h2 hl1 hl2 hends ⊢
  have hl1' : (ns.length : Int) ≤ 200 := by omega
  have hl2' : (es.length : Int) ≤ 400 := by omega
  obtain ⟨C, hC, hCb, hmk⟩ := make_one (T := 68) (E := 4) (z := .bool false) (by' := 1) Tryz.underlying68 (by kernel_rfl) rfl (by decide) ns.length (by omega)
  obtain ⟨i0, hi0, hz0, hz1, hz2⟩ := info_parts (show (Tryz.prog.info? 68).map (fun i => (i.zero, i.size, i.bytes)) = some (some (.slice none 0 0), 1, 24) by kernel_rfl)
  go_enter Tryz.func37, Tryz.ntmps37
  go_wp2
  have hL : Lk w (((w.alloc (.cells #[.slice a1 ns.length c1, .slice a2 es.length c2] 36)).alloc (.cells #[.slice none 0 0] 66)).alloc (.cells #[.slice none 0 0] 66)) (.slice a1 ns.length c1) (.slice a2 es.length c2) (.slice none 0 0) 0 ns.length (fun _ => 0) (fun _ _ => false) := by
    have n1 : (w.alloc (.cells #[.slice a1 ns.length c1, .slice a2 es.length c2] 36)).heap.size = w.heap.size + 1 := by simp
    have n2 : ((w.alloc (.cells #[.slice a1 ns.length c1, .slice a2 es.length c2] 36)).alloc (.cells #[.slice none 0 0] 66)).heap.size = w.heap.size + 1 + 1 := by simp
    have b0 := (Below.refl _ w).alloc (Nat.le_refl _) (.cells #[.slice a1 ns.length c1, .slice a2 es.length c2] 36)
    have b1 := (Below.refl _ (w.alloc (.cells #[.slice a1 ns.length c1, .slice a2 es.length c2] 36))).alloc (Nat.le_refl _) (.cells #[.slice none 0 0] 66)
    have b2 := (Below.refl _ ((w.alloc (.cells #[.slice a1 ns.length c1, .slice a2 es.length c2] 36)).alloc (.cells #[.slice none 0 0] 66))).alloc (Nat.le_refl _) (.cells #[.slice none 0 0] 66)
    have b12 := b1.trans (b2.mono b1.size)
    refine ⟨b0.trans (b12.mono b0.size), cell_kept (fun hl => b12.block _ hl) (by rw [World.cell?_alloc_mark]; rfl), cell_kept (fun hl => b12.block _ hl) (by rw [World.cell?_alloc_mark]; rfl), ?_, ?_, ?_, ?_, Mx.nil _ _ _ _ _⟩
    · refine cell_kept (fun hl => b2.block _ hl) ?_
      rw [← n1, World.cell?_alloc_mark]; rfl
    · refine (World.frozen?_of_block (a := ⟨w.heap.size + 1, 0, none⟩) (b2.block _ (by simp))).trans ?_
      rw [← n1, World.frozen?_alloc_mark]; simp
    · rw [← n2, World.cell?_alloc_mark]; rfl
    · rw [← n2, World.frozen?_alloc_mark]; simp
  generalize ((w.alloc (.cells #[.slice a1 ns.length c1, .slice a2 es.length c2] 36)).alloc (.cells #[.slice none 0 0] 66)).alloc (.cells #[.slice none 0 0] 66) = W0 at hL ⊢
  go_loopw [6] (fun i wr => ∃ (k : Nat) (v : Value) (gs : Nat → Nat), k ≤ ns.length ∧ i = .int .i64 k ∧ Lk w wr (.slice a1 ns.length c1) (.slice a2 es.length c2) v k ns.length gs (fun _ _ => false)) (fun i wr => ns.length - (intOf i).toNat)
  case atStart => exact ⟨0, _, _, by omega, rfl, hL⟩
  case round =>
    clear hL
    obtain ⟨k, v, gs, hk, rfl, L⟩ := hrel
    have q0 := L.g0
    have q5 := L.c5
    by_cases hlt : k < ns.length
    · have f0 : decide ((k : Int) < ns.length) = true := decide_eq_true (by omega)
      have f0' : decide (k < ns.length) = true := decide_eq_true hlt
      have hz := L.hz
      have hzA : w.heap.size < wr.heap.size := by omega
      have hzB : w.heap.size + 1 + 1 < wr.heap.size := by omega
      have qf := L.f5
      have q5a : ∀ o, (wr.alloc o).cell? ⟨w.heap.size + 1 + 1, 0, none⟩ = some v := fun o => (L.step ((Below.refl _ wr).alloc (Nat.le_refl _) o)).c5
      have q5b : ∀ o o', ((wr.alloc o).alloc o').cell? ⟨w.heap.size + 1 + 1, 0, none⟩ = some v := fun o o' => ((L.step ((Below.refl _ wr).alloc (Nat.le_refl _) o)).step ((Below.refl _ _).alloc (Nat.le_refl _) o')).c5
      have q0a : ∀ o, (wr.alloc o).cell? ⟨w.heap.size, 0, none⟩ = some (.slice a1 ns.length c1) := fun o => (L.step ((Below.refl _ wr).alloc (Nat.le_refl _) o)).g0
      obtain ⟨u1, u2, u3, rfl⟩ : ∃ u1 u2 u3, v = .slice u1 u2 u3 := by
        rcases L.mx.own.2 with ⟨e, _⟩ | ⟨g, cap, cur, e, _⟩
        · exact ⟨_, _, _, e⟩
        · exact ⟨_, _, _, e⟩
      have hmW : ((wr.drew.alloc (.cells C 4)).alloc (.cells #[.slice (some ⟨wr.heap.size, 0, none⟩) ns.length ns.length] 68)).ownsRow (w.heap.size + 3) 68 1 (.slice u1 u2 u3) k ((List.range k).map (rowV gs ns.length)) := ((L.step (below_drew wr)).mx.own.alloc _).alloc _
      have hbW : Below wr.heap.size wr ((wr.drew.alloc (.cells C 4)).alloc (.cells #[.slice (some ⟨wr.heap.size, 0, none⟩) ns.length ns.length] 68)) := ((below_drew wr).alloc (Nat.le_refl _) _).alloc (by simp) _
      have hb1 : Below (wr.drew.alloc (.cells C 4)).heap.size (wr.drew.alloc (.cells C 4)) ((wr.drew.alloc (.cells C 4)).alloc (.cells #[.slice (some ⟨wr.heap.size, 0, none⟩) ns.length ns.length] 68)) := (Below.refl _ _).alloc (Nat.le_refl _) _
      have hcW : ∀ j, j < ns.length → ((wr.drew.alloc (.cells C 4)).alloc (.cells #[.slice (some ⟨wr.heap.size, 0, none⟩) ns.length ns.length] 68)).cell? ⟨wr.heap.size, j, none⟩ = some (.bool false) := fun j hj => by
        refine cell_kept (fun hl => hb1.block _ hl) ?_
        show (wr.alloc (.cells C 4)).cell? ⟨wr.heap.size, j, none⟩ = _
        rw [World.cell?_alloc_mark]
        exact hCb j hj
      have hfW : ∀ o, ((wr.drew.alloc (.cells C 4)).alloc (.cells #[.slice (some ⟨wr.heap.size, 0, none⟩) ns.length ns.length] 68)).frozen? ⟨wr.heap.size, o, none⟩ = false := fun o => by
        refine (World.frozen?_of_block (a := ⟨wr.heap.size, o, none⟩) (hb1.block _ (by simp))).trans ?_
        show (wr.alloc (.cells C 4)).frozen? ⟨wr.heap.size, o, none⟩ = _
        rw [World.frozen?_alloc_mark]
        simp
      go_upto_region 5 with fail
      go_region_law (refine step_append_lies _ (by rfl) (.tmp 19) (.tmp 24) 64 (by rfl) (w.heap.size + 3) 68 i0 (.slice none 0 0) 1 24 Tryz.underlying64 hi0 hz0 hz1 hz2 rfl (by decide) (.slice u1 u2 u3) k ((List.range k).map (rowV gs ns.length)) (by rfl) hmW ⟨_, 0, none⟩ 1 1 [.slice (some ⟨wr.heap.size, 0, none⟩) ns.length ns.length] (by rfl) rfl (World.news_of_block (new_block (by simp) _ _)) (by intro u hu; simp at hu; rcases hu with rfl; rfl) (by decide) (by unfold maxLen; omega) (by omega) (by simp <;> omega) _ rfl ?_; intro g cap w6 hown6 hgrow6 hat6 hlt6; have hgrow6 : World.grownBy _ w6 (Value.slice u1 u2 u3).ownBlock := hgrow6; obtain ⟨⟨d5, df⟩, L6⟩ := Lk.more L hbW (Nat.le_refl _) (by simp; omega) hcW hfW hown6 hgrow6 hat6)
      all_goals
        rw [show (fun i j => if i = k then false else (fun _ _ => false : Nat → Nat → Bool) i j) = (fun _ _ => false) by funext i j; simp] at L6
        go_wp2_with fail
        go_round
        case rel => exact ⟨k + 1, _, _, by omega, by go_num, L6⟩
        case measure => simp [intOf]; omega
    · have hk3 : k = ns.length := by omega
      subst hk3
      have f0 : decide ((ns.length : Int) < ns.length) = false := decide_eq_false (by omega)
      clear hk hlt
      go_wp2_with fail
      clear q0 q5
      go_loopw [7] (fun i wr => ∃ (j : Nat), j ≤ es.length ∧ i = .int .i64 j ∧ Lk w wr (.slice a1 ns.length c1) (.slice a2 es.length c2) v ns.length ns.length gs (lnks ns (es.take j))) (fun i wr => es.length - (intOf i).toNat)
      case atStart => exact ⟨0, by omega, rfl, by rw [show lnks ns (es.take 0) = fun _ _ => false by funext i j; simp [lnks]]; exact L⟩
      case round =>
        clear L
        obtain ⟨j, hj, rfl, L⟩ := hrel
        have q0 := L.g0
        have q1 := L.g1
        have q5 := L.c5
        by_cases hlt : j < es.length
        · have f0 : decide ((j : Int) < es.length) = true := decide_eq_true (by omega)
          have f0' : decide (j < es.length) = true := decide_eq_true hlt
          have hlt2 : (j : Int) < es.length := by omega
          have hr := h2.below EEd.kept L.below
          have hrn := h1.below ENd.kept L.below
          obtain ⟨b, o, l2, d2, rfl, hS0, hc, hct, hcs, hcd, hcf, _, _⟩ := REd.at hr hlt
          obtain ⟨hka, hkb⟩ := hends j hlt
          obtain ⟨p, hp, hp1, hp2⟩ := posN_get ns es[j].src 0 (thr_iff.2 hka)
          obtain ⟨q, hq, hq1, hq2⟩ := posN_get ns es[j].dst 0 (thr_iff.2 hkb)
          rw [Nat.zero_add] at hp1 hq1
          have hnA : ∀ (id : Int) (u : World), RNd u S (.slice a1 ns.length c1) ns → Calls Tryz.prog 38 #[.agg #[.slice a1 ns.length c1, .slice (some ⟨b, o, none⟩) es.length c2], .int .i64 id] u (IntB (posN ns id 0) u) := fun id u r => snodeAt_any u S a1 (some ⟨b, o, none⟩) es.length c1 c2 ns id r
          go_upto_region 9 with fail
          refine region_ext (by kernel_rfl) (by kernel_rfl) ?_
          have y0 := Ext.cell L.g0
          have y1 := Ext.cell L.g1
          have y2 := Ext.cell hcs
          repeat (go_big_quiet_step ((go_at_call 38; rename_i u; exact (hnA _ u.w (hrn.below ENd.kept u.below)).mono fun e w' h => ⟨h.1, ⟨w', u.below.trans (h.2.mono u.below.size)⟩, rfl⟩)))
          refine wpQuiet_nil ?_
          intro w2 hb2
          clear y0 y1 y2
          have L2 := L.step hb2
          have hrn2 := hrn.below ENd.kept hb2
          have hcd2 := cell_kept (fun hl => hb2.block _ hl) hcd
          go_upto_region 10 with fail
          refine region_ext (by kernel_rfl) (by kernel_rfl) ?_
          have y0 := Ext.cell L2.g0
          have y1 := Ext.cell L2.g1
          have y2 := Ext.cell hcd2
          repeat (go_big_quiet_step ((go_at_call 38; rename_i u; exact (hnA _ u.w (hrn2.below ENd.kept u.below)).mono fun e w' h => ⟨h.1, ⟨w', u.below.trans (h.2.mono u.below.size)⟩, rfl⟩)))
          refine wpQuiet_nil ?_
          intro w3 hb3
          clear y0 y1 y2
          have L3 := L2.step hb3
          have hrn3 := hrn2.below ENd.kept hb3
          clear q0 q1 q5
          by_cases hpq : p = q
          · subst hpq
            have HN := Lib.hid (lnks_same hlt hp1 hq1)
            rw [HN.out] at L3
            go_wp2_with fail
            go_round
            case rel => exact ⟨j + 1, by omega, by go_num, L3⟩
            case measure => simp [intOf]; omega
          · have HN := Lib.hid (updM_lnk hlt hp1 hq1 hpq)
            have f1 : ((p : Int) == q) = false := by rw [beq_eq_false_iff_ne]; omega
            have f1' : (p == q) = false := by rw [beq_eq_false_iff_ne]; omega
            have e1 : (p : Int) < ns.length := by omega
            have e2 : (q : Int) < ns.length := by omega
            obtain ⟨gO, cO, rfl, hrow⟩ := L3.mx.rowcell hp
            have hr1 := hrow p hp
            clear hrow
            unfold rowV at hr1
            have z1 := L3.mx.cell p hp q hq
            have z2 := L3.mx.fro p hp q
            have z5 := L3.c5
            go_upto_region 13 with fail
            have L4 := L3.put hp hq
            clear hr1 z1 z2 z5
            generalize w3.setCell ⟨gs p, q, none⟩ (.bool true) = w4 at L4 ⊢
            obtain ⟨gO', cO', hvv, hrow⟩ := L4.mx.rowcell hq
            cases hvv
            have hr1 := hrow q hq
            clear hrow
            unfold rowV at hr1
            have z1 := L4.mx.cell q hq p hp
            have z2 := L4.mx.fro q hq p
            have z5 := L4.c5
            have L5 := L4.put hq hp
            rw [HN.out] at L5
            go_wp2_with fail
            go_round
            case rel => exact ⟨j + 1, by omega, by go_num, L5⟩
            case measure => simp [intOf]; omega
        · have hj3 : j = es.length := by omega
          subst hj3
          have f0 : decide ((es.length : Int) < es.length) = false := decide_eq_false (by omega)
          have qf := L.f4
          have q4 := L.r4
          have hz := L.hz
          have hmx := L.mx
          rw [List.take_length] at hmx
          obtain ⟨u1, u2, u3, rfl⟩ : ∃ u1 u2 u3, v = .slice u1 u2 u3 := by
            rcases hmx.own.2 with ⟨e, _⟩ | ⟨g, cap, cur, e, _⟩
            · exact ⟨_, _, _, e⟩
            · exact ⟨_, _, _, e⟩
          have hm2 := hmx.set1 (a := ⟨w.heap.size + 1, 0, none⟩) (by show w.heap.size + 1 < _; omega) (.slice u1 u2 u3)
          go_wp2_with fail
          exact bodyPost_ret (v := .agg #[.slice u1 u2 u3]) (by simp [results, Tryz.results37, go_sem, q4]) rfl
            ⟨_, gs, rfl, hm2.lower (by omega), sets_below (g := w.heap.size + 1) (by omega) [.slice u1 u2 u3] 0 _ L.below⟩
theorem linked_any (w : World) (S : Nat → Prop) (v : Value) (g : Gr) (h : RGr w S v g) (hok : gOk g = true) : Calls Tryz.prog 37 #[v, .bool true] w (LinkR g.nodes g.edges w) := linked_gw w S v g h (gw_of hok)
end Go.Proofs.YtllhimeffkefiaaGreatDoor
/- The specification's reach over a table of links. Condition: the table is n times n, nothing is gone. -/
set_option linter.unusedVariables false
set_option linter.unusedSimpArgs false
namespace Go.Proofs.YtllhimeffkefiaaGreatDoor
open Go.RowKit Go.Sort

inductive Rch (n : Nat) (M : Nat → Nat → Bool) (a : Nat) : Nat → Prop
  | refl : Rch n M a a
  | step {b c : Nat} : Rch n M a b → c < n → M b c = true → Rch n M a c
def cnt : Nat → (Nat → Bool) → Nat
  | 0, _ => 0
  | n + 1, s => cnt n s + if s n then 0 else 1
def mark (s : Nat → Bool) (k : Nat) : Nat → Bool := fun j => if j = k then true else s j
theorem cnt_same : ∀ (n : Nat) (s : Nat → Bool) (k : Nat), n ≤ k → cnt n (mark s k) = cnt n s
  | 0, s, k, h => rfl
  | n + 1, s, k, h => by
    simp only [cnt]
    have e : mark s k n = s n := by unfold mark; rw [if_neg (by omega)]
    rw [cnt_same n s k (by omega), e]
theorem cnt_mark : ∀ (n : Nat) (s : Nat → Bool) (k : Nat), k < n → s k = false → cnt n (mark s k) + 1 = cnt n s
  | 0, s, k, h, _ => by omega
  | n + 1, s, k, h, hs => by
    simp only [cnt]
    by_cases e : k = n
    · subst e
      rw [cnt_same k s k (Nat.le_refl _), hs]
      simp [mark]
    · have := cnt_mark n s k (by omega) hs
      have e2 : mark s k n = s n := by unfold mark; rw [if_neg (fun q => e q.symm)]
      rw [e2]
      omega
theorem cnt_le : ∀ (n : Nat) (s : Nat → Bool), cnt n s ≤ n
  | 0, s => Nat.le_refl _
  | n + 1, s => by
    simp only [cnt]
    have := cnt_le n s
    split <;> omega
/-- what holds of a search on its way: from f; st: what is still to be looked at -/
structure Dfs (n : Nat) (M : Nat → Nat → Bool) (f : Nat) (st : List Nat) (s : Nat → Bool) : Prop where
  at0 : s f = true
  sound : ∀ j, j < n → s j = true → Rch n M f j
  stk : ∀ j ∈ st, j < n ∧ s j = true
  closed : ∀ j, j < n → s j = true → j ∉ st → ∀ k, k < n → M j k = true → s k = true
theorem Dfs.done {n : Nat} {M : Nat → Nat → Bool} {f : Nat} {s : Nat → Bool} (h : Dfs n M f [] s) (hf : f < n) : ∀ j, j < n → (s j = true ↔ Rch n M f j) := fun j hj => by
  refine ⟨h.sound j hj, fun hr => ?_⟩
  have : ∀ c, Rch n M f c → c < n ∧ s c = true := fun c hc => by
    induction hc with
    | refl => exact ⟨hf, h.at0⟩
    | step _ hcn hm ih => exact ⟨hcn, h.closed _ ih.1 ih.2 (by simp) _ hcn hm⟩
  exact (this j hr).2
/-- while u's neighbours are looked at: those below k have been -/
structure DfsU (n : Nat) (M : Nat → Nat → Bool) (f u k : Nat) (st : List Nat) (s : Nat → Bool) : Prop where
  at0 : s f = true
  sound : ∀ j, j < n → s j = true → Rch n M f j
  stk : ∀ j ∈ st, j < n ∧ s j = true
  closed : ∀ j, j < n → s j = true → j ∉ st → j ≠ u → ∀ k, k < n → M j k = true → s k = true
  part : ∀ j, j < k → M u j = true → s j = true
  un : u < n
  us : s u = true
theorem Dfs.open {n : Nat} {M : Nat → Nat → Bool} {f u : Nat} {st : List Nat} {s : Nat → Bool} (h : Dfs n M f (st ++ [u]) s) : DfsU n M f u 0 st s :=
  ⟨h.at0, h.sound, fun j hj => h.stk j (by simp [hj]), fun j hj hs hn hu => h.closed j hj hs (by simp [hn, hu]), fun j hj => by omega, (h.stk u (by simp)).1, (h.stk u (by simp)).2⟩
theorem DfsU.shut {n : Nat} {M : Nat → Nat → Bool} {f u : Nat} {st : List Nat} {s : Nat → Bool} (h : DfsU n M f u n st s) : Dfs n M f st s :=
  ⟨h.at0, h.sound, h.stk, fun j hj hs hn => by
    by_cases e : j = u
    · subst e; exact fun k hk hm => h.part k hk hm
    · exact h.closed j hj hs hn e⟩
theorem DfsU.skip {n : Nat} {M : Nat → Nat → Bool} {f u k : Nat} {st : List Nat} {s : Nat → Bool} (h : DfsU n M f u k st s) (hk : M u k = true → s k = true) : DfsU n M f u (k + 1) st s :=
  ⟨h.at0, h.sound, h.stk, h.closed, fun j hj hm => by
    by_cases e : j = k
    · subst e; exact hk hm
    · exact h.part j (by omega) hm, h.un, h.us⟩
theorem DfsU.push {n : Nat} {M : Nat → Nat → Bool} {f u k : Nat} {st : List Nat} {s : Nat → Bool} (h : DfsU n M f u k st s) (hk : k < n) (hm : M u k = true) : DfsU n M f u (k + 1) (st ++ [k]) (mark s k) := by
  have up : ∀ j, s j = true → mark s k j = true := fun j hj => by unfold mark; split <;> simp [hj]
  have dn : ∀ j, mark s k j = true → j ≠ k → s j = true := fun j hj hne => by unfold mark at hj; rwa [if_neg hne] at hj
  refine ⟨up _ h.at0, fun j hj hs => ?_, fun j hj => ?_, fun j hj hs hn hu c hc hmc => ?_, fun j hj hmj => ?_, h.un, up _ h.us⟩
  · by_cases e : j = k
    · subst e; exact (h.sound u h.un h.us).step hk hm
    · exact h.sound j hj (dn j hs e)
  · rcases List.mem_append.1 hj with q | q
    · exact ⟨(h.stk j q).1, up _ (h.stk j q).2⟩
    · simp at q; subst q; exact ⟨hk, by simp [mark]⟩
  · have hjk : j ≠ k := fun e => hn (by simp [e])
    exact up _ (h.closed j hj (dn j hs hjk) (fun q => hn (by simp [q])) hu c hc hmc)
  · by_cases e : j = k
    · subst e; simp [mark]
    · exact up _ (h.part j (by omega) hmj)
/-- the last is struck off -/
theorem own_drop {w : World} {base : Nat} {e : TypeId} {a : Option Addr} {n c : Nat} {xs : List Value} {x : Value} (h : w.ownsRow base e 1 (.slice a (n + 1) c) (n + 1) (xs ++ [x])) (hx : xs.length = n) : w.ownsRow base e 1 (.slice a n c) n xs := by
  refine ⟨by omega, ?_⟩
  rcases h.2 with ⟨q, hn⟩ | ⟨g, cap, cur, hv, hb, hgg, hc, hm, hs, ht⟩
  · omega
  · cases hv
    refine .inr ⟨g, c, cur, rfl, hb, hgg, by omega, hm, hs, ?_⟩
    have : cur.toList.take (n * 1) = (cur.toList.take ((n + 1) * 1)).take n := by rw [List.take_take]; congr 1; omega
    rw [this, ht, List.take_left' hx]
theorem own_last {w : World} {base : Nat} {e : TypeId} {v : Value} {n : Nat} {xs : List Value} {x : Value} (h : w.ownsRow base e 1 v (n + 1) (xs ++ [x])) (hx : xs.length = n) : ∃ g c, v = .slice (some ⟨g, 0, none⟩) (n + 1) c ∧ w.cell? ⟨g, n, none⟩ = some x ∧ n + 1 ≤ c := by
  rcases h.2 with ⟨q, hn⟩ | ⟨g, cap, cur, rfl, hb, hgg, hc, hm, hs, ht⟩
  · omega
  · refine ⟨g, cap, rfl, ?_, hc⟩
    have e : (cur.toList.take ((n + 1) * 1))[n]? = some x := by rw [ht, List.getElem?_append_right (by omega)]; simp [hx]
    rw [List.getElem?_take, if_pos (by omega)] at e
    have := World.news_of_block hgg n _ e
    rw [Addr.add_lit, Nat.zero_add] at this
    exact this
def ReachR (n : Nat) (M : Nat → Nat → Bool) (f : Nat) (w : World) (e : Ending) (w' : World) : Prop :=
  ∃ (gS : Nat) (s : Nat → Bool), e = .returned (.slice (some ⟨gS, 0, none⟩) n n) ∧ w.heap.size ≤ gS ∧ (∀ j, j < n → w'.cell? ⟨gS, j, none⟩ = some (.bool (s j))) ∧ (∀ j, j < n → (s j = true ↔ Rch n M f j)) ∧ Below w.heap.size w w'
/-- within l16Reach: the table's box, the row of what is seen, the row of what is still to be looked at -/
structure Rk (w W : World) (v : Value) (n : Nat) (s : Nat → Bool) (u : Value) (st : List Nat) : Prop where
  below : Below w.heap.size w W
  b0 : W.cell? ⟨w.heap.size, 0, none⟩ = some v
  seen : ∀ j, j < n → W.cell? ⟨w.heap.size + 1, j, none⟩ = some (.bool (s j))
  fro : ∀ o, W.frozen? ⟨w.heap.size + 1, o, none⟩ = false
  now : W.ownsRow (w.heap.size + 2) 3 1 u st.length (st.map fun j : Nat => Value.int .i64 j)
  sz : w.heap.size + 2 ≤ W.heap.size
theorem Rk.mark {w W : World} {v : Value} {n : Nat} {s : Nat → Bool} {u : Value} {st : List Nat} (h : Rk w W v n s u st) {k : Nat} (hk : k < n) : Rk w (W.setCell ⟨w.heap.size + 1, k, none⟩ (.bool true)) v n (Proofs.YtllhimeffkefiaaGreatDoor.mark s k) u st := by
  refine ⟨⟨h.below.os, h.below.tape, h.below.output, by simp [World.setCell]; exact h.below.size, fun b hb => (Below.heap_setCell _ _ _ _ (by show b ≠ w.heap.size + 1; omega)).trans (h.below.block b hb)⟩, (World.cell?_setCell_other _ _ _ _ (by simp)).trans h.b0, fun j hj => ?_, fun o => (World.frozen?_setCell _ _ _ _).trans (h.fro o), ?_, by simp [World.setCell]; exact h.sz⟩
  · unfold Proofs.YtllhimeffkefiaaGreatDoor.mark
    by_cases e : j = k
    · subst e
      rw [if_pos rfl]
      exact World.cell?_setCell_same _ _ _ (h.seen j hj)
    · rw [if_neg e]
      exact (World.cell?_setCell_other _ _ _ _ (fun q => e (by injection q with q1 q2; omega))).trans (h.seen j hj)
  · exact own_kept h.now fun b hb _ => Below.heap_setCell _ _ _ _ (by show b ≠ w.heap.size + 1; omega)
theorem Rk.push {w W W2 w6 : World} {v : Value} {n : Nat} {s : Nat → Bool} {u : Value} {st : List Nat} (h : Rk w W v n s u st) {k : Nat} (hb : Below W.heap.size W W2) {g cap : Nat}
    (hown : w6.ownsRow (w.heap.size + 2) 3 1 (.slice (some ⟨g, 0, none⟩) (st.length + 1) cap) (st.length + 1) ((st.map fun j : Nat => Value.int .i64 j) ++ [.int .i64 (k : Int)])) (hgrow : W2.grownBy w6 u.ownBlock) : Rk w w6 v n s (.slice (some ⟨g, 0, none⟩) (st.length + 1) cap) (st ++ [k]) := by
  have hob : ∀ q, u.ownBlock = some q → w.heap.size + 2 ≤ q := fun q e => (h.now.lt q e).1
  have hs := h.sz
  have hk : ∀ b, b < w.heap.size + 2 → w6.heap[b]? = W.heap[b]? := fun b hb2 => (hgrow.block b (Nat.lt_of_lt_of_le (by omega : b < W.heap.size) hb.size) (fun e => by have := hob b e.symm; omega)).trans (hb.block b (by omega))
  refine ⟨⟨hgrow.os.trans (hb.os.trans h.below.os), hgrow.tape.trans (hb.tape.trans h.below.tape), hgrow.output.trans (hb.output.trans h.below.output), Nat.le_trans h.below.size (Nat.le_trans hb.size hgrow.size), fun b hb2 => (hk b (by omega)).trans (h.below.block b hb2)⟩, (World.cell?_of_block (a := ⟨w.heap.size, 0, none⟩) (hk w.heap.size (by omega))).trans h.b0, fun j hj => (World.cell?_of_block (a := ⟨w.heap.size + 1, j, none⟩) (hk (w.heap.size + 1) (by omega))).trans (h.seen j hj), fun o => (World.frozen?_of_block (a := ⟨w.heap.size + 1, o, none⟩) (hk (w.heap.size + 1) (by omega))).trans (h.fro o), by simpa using hown, Nat.le_trans hs (Nat.le_trans hb.size hgrow.size)⟩
end Go.Proofs.YtllhimeffkefiaaGreatDoor
/- The specification's row of parts: of each node what the row of numbers holds. -/
set_option linter.unusedVariables false
set_option linter.unusedSimpArgs false
namespace Go.Proofs.YtllhimeffkefiaaGreatDoor
open Go.RowKit Go.Sort

end Go.Proofs.YtllhimeffkefiaaGreatDoor
