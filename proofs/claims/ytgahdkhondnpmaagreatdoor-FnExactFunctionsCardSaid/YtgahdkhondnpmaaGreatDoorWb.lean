/- The walk of impl's table of functions: it makes a map that has just the named keys; no condition. -/
import Derived.Test.YtgahdkhondnpmaaGreatDoorProg
import Derived.WalkKit
import Derived.KernelRfl
import Derived.Below
import Derived.Laws.EntriesVeiled
import Derived.Maps.OwnOps
import Derived.Maps.RangeWalk
import Derived.Lib.Hide
namespace Go.Proofs.YtgahdkhondnpmaaGreatDoor
open Go.RowKit Go.WideMaps
open Go.Maps (Keyed)

/-- 'm[k] = v' in a literal of a map -/
theorem wpList_insert_own {H : Type} {P : Program} (w : World) {ops : Array Oper} {rest : List Oper} {o : Oper} {a : Act} {Q : Exit → Act → World → Prop}
    (hg : o.guard = none) (m x v : Operand) (t : TypeId) (hop : o.op = Op.insert t m x v)
    (k e : TypeId) (K : Keyed P k) (ht : P.underlying t = some (.map k e)) (R : Value → Option (DataW H × List MemPlace)) (b n : Nat) (D : DataW H)
    (hm : a.eval m = .map (some b)) (hown : w.ownsMap P k R b n D) (hn : n < maxLen) (key val : Value) (kl : Lit) (hx : a.eval x = key) (hv : a.eval v = val) (hkey : keyOf P k key = some kl)
    (d : DataW H) (ps : List MemPlace) (hval : R val = some (d, ps))
    (hK : ∀ w', w'.ownsMap P k R b (n + 1) (D.put kl d) → w.grownBy w' (some b) → wpList P ops Q rest (a.put o.dst undef) w') :
    wpList P ops Q (o :: rest) a w := by
  refine wpList_plain hg fun K' hK' => ?_
  obtain ⟨w', hrun, r1, r2⟩ := hown.update K ht hn hkey hval
  unfold Oper.wp
  simp [execOp, hop, hm, hx, hv, hrun, Result.andThen]
  exact hK' _ _ (hK w' r1 r2)

theorem k_any (v : Value) (w : World) : Calls Tryz.prog 12 #[v] w fun e w' => e = .returned v ∧ w = w' := by
  go_enter Tryz.func12, Tryz.ntmps12
  go_wp2
  go_ret
  exact ⟨rfl, rfl⟩

/-- it hands something back, and nothing old has turned -/
def SomeNew (w : World) (e : Ending) (w' : World) : Prop := ∃ x, e = .returned x ∧ Below w.heap.size w w'
set_option maxRecDepth 100000 in
theorem one_any (a : Option Addr) (n c F : Nat) (w : World) : Calls Tryz.prog 13 #[.slice a n c, .func (.func F) #[] #[]] w (SomeNew w) := by
  go_enter Tryz.func13, Tryz.ntmps13
  go_wp2
  exact bodyPost_ret (v := .agg #[.slice (some ⟨w.heap.size + 1 + 1, 0, none⟩) 1 1, .func (.func 14) #[] #[.pointer (some ⟨w.heap.size, 0, none⟩)]]) (by simp [results, Tryz.results13, go_sem]) rfl
    ⟨_, rfl, (((Below.refl _ w).alloc (Nat.le_refl _) _).alloc (by simp) _).alloc (by simp; omega) _⟩
set_option maxRecDepth 100000 in
theorem pair_any (n : Int) (F : Nat) (w : World) : Calls Tryz.prog 15 #[.int .i64 n, .func (.func F) #[] #[]] w (SomeNew w) := by
  go_enter Tryz.func15, Tryz.ntmps15
  go_wp2
  exact bodyPost_ret (v := .agg #[.slice (some ⟨w.heap.size + 1 + 1 + 1 + 1, 0, none⟩) 2 2, .func (.func 16) #[] #[.pointer (some ⟨w.heap.size, 0, none⟩)]]) (by simp [results, Tryz.results15, go_sem]) rfl
    ⟨_, rfl, (((((Below.refl _ w).alloc (Nat.le_refl _) _).alloc (by simp) _).alloc (by simp; omega) _).alloc (by simp; omega) _).alloc (by simp; omega) _⟩

/-- how an element reads: not at all -/
def RF (_v : Value) : Option (DataW Unit × List MemPlace) := some (.nil, [])
theorem kmap9 : Keyed Tryz.prog 9 := Go.Maps.string_keyed Tryz.underlying9
/-- a map of the call's own with at most n entries that has read as D -/
def Made (w : World) (n : Nat) (D : DataW Unit) (e : Ending) (w' : World) : Prop := ∃ b, e = .returned (.map (some b)) ∧ w.heap.size ≤ b ∧ w'.ownsMap Tryz.prog 9 RF b n D ∧ Below w.heap.size w w'

theorem key_lit (s : ByteArray) (h : s.data.size ≤ maxLen) : keyOf Tryz.prog 9 (.string s) = some (.string s.data.toList) := keyOf_string_mk Tryz.underlying9 h

/-- on the way: the map so far -/
structure Mid (w W : World) (n : Nat) (D : DataW Unit) : Prop where
  own : W.ownsMap Tryz.prog 9 RF w.heap.size n D
  below : Below w.heap.size w W
  lt : w.heap.size < W.heap.size
theorem Mid.start (w : World) : Mid w (w.alloc (.map #[] 0)) 0 (.map []) := ⟨World.ownsMap_made w _ _ _, (Below.refl _ w).alloc (Nat.le_refl _) _, by simp⟩
theorem Mid.call0 {w W W' : World} {n : Nat} {D : DataW Unit} (h : Mid w W n D) (hb : Below W.heap.size W W') : Mid w W' n D := by
  obtain ⟨es, clock, h1, h2⟩ := h.own
  exact ⟨⟨es, clock, (hb.block _ h.lt).trans h1, h2⟩, h.below.trans (hb.mono (Nat.le_of_lt h.lt)), Nat.lt_of_lt_of_le h.lt hb.size⟩
theorem Mid.call1 {w W W' : World} {n : Nat} {D : DataW Unit} {o : Obj} (h : Mid w W n D) (hb : Below (W.alloc o).heap.size (W.alloc o) W') : Mid w W' n D :=
  (h.call0 ((Below.refl _ W).alloc (Nat.le_refl _) o)).call0 hb
theorem Mid.upd {w W : World} {n : Nat} {D : DataW Unit} (h : Mid w W n D) (s : ByteArray) (x : Value) (hs : s.data.size ≤ maxLen) (hn : n < 100) :
    ∃ W', (Instr.mapUpdate 27 (.map (some w.heap.size)) (.string s) x).run Tryz.prog W = .ok () W' ∧ Mid w W' (n + 1) (D.put (.string s.data.toList) .nil) := by
  obtain ⟨W', hr, h1, hg1⟩ := h.own.update kmap9 Tryz.underlying27 (by unfold maxLen; omega) (key_lit s hs) (show RF x = some (.nil, []) from rfl)
  exact ⟨W', hr, h1, ⟨hg1.os.trans h.below.os, hg1.tape.trans h.below.tape, hg1.output.trans h.below.output, Nat.le_trans h.below.size hg1.size, fun k hk => (hg1.block k (Nat.lt_of_lt_of_le hk h.below.size) (by intro e; cases e; exact Nat.lt_irrefl _ hk)).trans (h.below.block k hk)⟩, Nat.lt_of_lt_of_le h.lt hg1.size⟩
set_option maxRecDepth 100000 in
theorem Mid.upon {w W : World} {n : Nat} {D : DataW Unit} (h : Mid w W n D) {o : Oper} {a : Act} {K : Act → World → Prop} {Q : Exit → Act → World → Prop} (s : ByteArray) (x : Value) (hs : s.data.size ≤ maxLen) (hn : n < 100)
    (hK : ∀ W', Mid w W' (n + 1) (D.put (.string s.data.toList) .nil) → Oper.upon Tryz.prog o a K Q ((Result.ok () W').andThen fun _ w' => .ok Next.skip w')) :
    Oper.upon Tryz.prog o a K Q (((Instr.mapUpdate 27 (.map (some w.heap.size)) (.string s) x).run Tryz.prog W).andThen fun _ w' => .ok Next.skip w') := by
  obtain ⟨W', hr, h1⟩ := h.upd s x hs hn
  rw [hr]
  exact hK W' h1

/-- the names of the table, in the order in which they are put in -/
def tabNames : List (List UInt8) := [
  [97, 98, 115],
  [98, 101, 103, 105, 110, 115],
  [101, 110, 100, 115],
  [104, 97, 115],
  [100, 97, 116, 101],
  [100, 101, 103, 114, 101, 101],
  [100, 105, 115, 116, 97, 110, 99, 101],
  [101, 100, 103, 101, 115],
  [110, 111, 100, 101, 115],
  [102, 105, 110, 105, 115, 104],
  [115, 116, 97, 114, 116],
  [104, 101, 97, 100],
  [108, 97, 115, 116],
  [105, 100],
  [107, 101, 121, 115],
  [108, 97, 98, 101, 108, 115],
  [108, 111, 119, 101, 114],
  [117, 112, 112, 101, 114],
  [112, 111, 105, 110, 116],
  [114, 97, 110, 103, 101],
  [114, 101, 118, 101, 114, 115, 101],
  [115, 105, 122, 101],
  [115, 112, 108, 105, 116],
  [116, 121, 112, 101]]
def tabD : DataW Unit := tabNames.foldl (fun D s => D.put (.string s) .nil) (.map [])

set_option maxHeartbeats 4000000 in
set_option maxRecDepth 1000000 in
theorem functions_any (w : World) : Calls Tryz.prog 9 #[] w (Made w 30 tabD) := by
  have hmm := @run_makeMap Tryz.prog
  have hM := Mid.start w
  go_enter Tryz.func9, Tryz.ntmps9
  go_wp2_with (first
    | (go_at_call 12; refine (k_any _ _).mono ?_; rintro e w' ⟨rfl, rfl⟩)
    | (go_at_call 13; refine (one_any _ _ _ _ _).mono ?_; rintro e w' ⟨x, rfl, hb'⟩; replace hM := hM.call1 hb'; clear hb')
    | (go_at_call 15; refine (pair_any _ _ _).mono ?_; rintro e w' ⟨x, rfl, hb'⟩; replace hM := hM.call0 hb'; clear hb')
    | (refine hM.upon _ _ ?_ ?_ ?_; decide; decide; intro w1 h1; replace hM := h1; clear h1))
  go_ret
  exact ⟨_, rfl, Nat.le_refl _, hM.own.mono (by decide), hM.below⟩
end Go.Proofs.YtgahdkhondnpmaaGreatDoor
