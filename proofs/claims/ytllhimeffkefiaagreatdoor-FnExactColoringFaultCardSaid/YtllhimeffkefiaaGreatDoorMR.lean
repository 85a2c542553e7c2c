/- Texts of one proof, joined in their order: each bears its own word of what it holds and on what condition. -/
import Derived.Test.YtllhimeffkefiaaGreatDoorMO
set_option linter.unusedVariables false
set_option linter.unusedSimpArgs false
/- The specification's degree of a node. Condition: the table is n times n, nothing is gone. -/
set_option linter.unusedVariables false
set_option linter.unusedSimpArgs false
namespace Go.Proofs.YtllhimeffkefiaaGreatDoor
open Go.RowKit Go.Sort

def DegR (n : Nat) (M : Nat → Nat → Bool) (i : Nat) (w : World) (e : Ending) (w' : World) : Prop := ∃ d : Nat, e = .returned (.int .i64 d) ∧ d ≤ n ∧ (0 < d ↔ ∃ j, j < n ∧ M i j = true) ∧ Below w.heap.size w w'
end Go.Proofs.YtllhimeffkefiaaGreatDoor
