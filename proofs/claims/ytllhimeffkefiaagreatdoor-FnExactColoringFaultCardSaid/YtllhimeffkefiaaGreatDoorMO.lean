/- Texts of one proof, joined in their order: each bears its own word of what it holds and on what condition. -/
import Derived.Test.YtllhimeffkefiaaGreatDoorMN
import Derived.Deep.LoopGhost
import Derived.Test.YtllhimeffkefiaaGreatDoorML
set_option linter.unusedVariables false
set_option linter.unusedSimpArgs false
/- The specification's reach over a table of links, some nodes gone. Condition: the table is n times n. -/
set_option linter.unusedVariables false
set_option linter.unusedSimpArgs false
namespace Go.Proofs.YtllhimeffkefiaaGreatDoor
open Go.RowKit Go.Sort

end Go.Proofs.YtllhimeffkefiaaGreatDoor
/- The specification's count of parts, some nodes gone. Condition: the table is n times n. -/
set_option linter.unusedVariables false
set_option linter.unusedSimpArgs false
namespace Go.Proofs.YtllhimeffkefiaaGreatDoor
open Go.RowKit Go.Sort

theorem Mx.shapeN {base : Nat} {W : World} {v : Value} {k n : Nat} {gs : Nat → Nat} {M : Nat → Nat → Bool} (h : Mx base W v k n gs M) : ∃ a c, v = .slice a k c := by
  rcases h.own.2 with ⟨e, h0⟩ | ⟨g, cap, cur, e, _⟩
  · subst h0; exact ⟨_, _, e⟩
  · exact ⟨_, _, e⟩
theorem Rk.stepN {w W W' : World} {v : Value} {n : Nat} {s : Nat → Bool} (h : Rk w W v n s (.slice none 0 0) []) (hb : Below W.heap.size W W') : Rk w W' v n s (.slice none 0 0) [] :=
  ⟨h.below.trans (hb.mono h.below.size), cell_kept (fun hl => hb.block _ hl) h.b0, fun j hj => cell_kept (fun hl => hb.block _ hl) (h.seen j hj), fun o => (World.frozen?_of_block (a := ⟨w.heap.size + 1, o, none⟩) (hb.block (w.heap.size + 1) (by have := h.sz; omega))).trans (h.fro o), World.ownsRow_nil _ _ _ _, Nat.le_trans h.sz hb.size⟩
theorem Rk.put {w W : World} {v : Value} {n : Nat} {s : Nat → Bool} (h : Rk w W v n s (.slice none 0 0) []) {k : Nat} (hk : k < n) (b : Bool) : Rk w (W.setCell ⟨w.heap.size + 1, k, none⟩ (.bool b)) v n (fun j => if j = k then b else s j) (.slice none 0 0) [] := by
  refine ⟨⟨h.below.os, h.below.tape, h.below.output, by simp [World.setCell]; exact h.below.size, fun b hb => (Below.heap_setCell _ _ _ _ (by show b ≠ w.heap.size + 1; omega)).trans (h.below.block b hb)⟩, (World.cell?_setCell_other _ _ _ _ (by simp)).trans h.b0, fun j hj => ?_, fun o => (World.frozen?_setCell _ _ _ _).trans (h.fro o), World.ownsRow_nil _ _ _ _, by simp [World.setCell]; exact h.sz⟩
  by_cases e : j = k
  · subst e
    rw [if_pos rfl]
    exact World.cell?_setCell_same _ _ _ (h.seen j hj)
  · rw [if_neg e]
    exact (World.cell?_setCell_other _ _ _ _ (fun q => e (by injection q with q1 q2; omega))).trans (h.seen j hj)
end Go.Proofs.YtllhimeffkefiaaGreatDoor
