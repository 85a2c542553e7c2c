/- Texts of one proof, joined in their order: each bears its own word of what it holds and on what condition. -/
import Derived.Test.YtbaljljlahhkfaaGreatDoorMO
set_option linter.unusedVariables false
set_option linter.unusedSimpArgs false
/- The specification's degree of a node. Condition: the table is n times n, nothing is gone. -/
set_option linter.unusedVariables false
set_option linter.unusedSimpArgs false
namespace Go.Proofs.YtbaljljlahhkfaaGreatDoor
open Go.RowKit Go.Sort

theorem sbool_any (w : World) (b : Bool) : Calls Tryz.prog 79 #[.bool b] w (fun e w' => e = .returned (.int .i64 (if b then 1 else 0)) ∧ w' = w) := by
  cases b <;>
  · go_enter Tryz.func79, Tryz.ntmps79
    go_wp2
    go_ret
    exact ⟨rfl, rfl⟩
theorem sbool_true (w : World) : Calls Tryz.prog 79 #[.bool true] w (fun e w' => e = .returned (.int .i64 1) ∧ w' = w) := sbool_any w true
theorem sbool_false (w : World) : Calls Tryz.prog 79 #[.bool false] w (fun e w' => e = .returned (.int .i64 0) ∧ w' = w) := sbool_any w false
def DegR (n : Nat) (M : Nat → Nat → Bool) (i : Nat) (w : World) (e : Ending) (w' : World) : Prop := ∃ d : Nat, e = .returned (.int .i64 d) ∧ d ≤ n ∧ (0 < d ↔ ∃ j, j < n ∧ M i j = true) ∧ Below w.heap.size w w'
set_option maxHeartbeats 2000000 in
set_option maxRecDepth 100000 in
theorem sdegree_any (w : World) (base n : Nat) (hn : n ≤ 200) (v : Value) (gs : Nat → Nat) (M : Nat → Nat → Bool) (hM : Mx base w v n n gs M) (x : Nat) (hx : x < n) (gG cG : Nat) (hG : ∀ j, j < n → w.cell? ⟨gG, j, none⟩ = some (.bool false)) :
    Calls Tryz.prog 48 #[.agg #[v], .int .i64 x, .slice (some ⟨gG, 0, none⟩) n cG] w (DegR n M x w) := by
  have hn2 : (n : Int) ≤ 200 := by omega
  obtain ⟨gO, cO, rfl, hrow⟩ := hM.rowcell hx
  have hMl := fun u => hM.below (W' := u)
  have hb0 := (Below.refl _ w).alloc (Nat.le_refl _) (.cells #[.slice (some ⟨gO, 0, none⟩) n cO] 53)
  have x0 : (w.alloc (.cells #[.slice (some ⟨gO, 0, none⟩) n cO] 53)).cell? ⟨w.heap.size, 0, none⟩ = some (.slice (some ⟨gO, 0, none⟩) n cO) := by rw [World.cell?_alloc_mark]; rfl
  go_enter Tryz.func48, Tryz.ntmps48
  go_wp2_with fail
  go_loopw [7, 8] (fun dd kk wr => ∃ (k d : Nat), k ≤ n ∧ d ≤ k ∧ kk = .int .i64 k ∧ dd = .int .i64 d ∧ (0 < d ↔ ∃ j, j < k ∧ M x j = true) ∧ Below w.heap.size w wr ∧ wr.cell? ⟨w.heap.size, 0, none⟩ = some (.slice (some ⟨gO, 0, none⟩) n cO)) (fun _ kk wr => n - (intOf kk).toNat)
  case atStart => exact ⟨0, 0, by omega, by omega, rfl, rfl, ⟨fun h => by omega, fun ⟨j, h, _⟩ => by omega⟩, hb0, x0⟩
  case round =>
    clear hb0 x0
    obtain ⟨k, d, hk, hd, rfl, rfl, hiff, hb, q0⟩ := hrel
    by_cases hlt : k < n
    · have f0 : decide ((k : Int) < n) = true := decide_eq_true (by omega)
      have f0' : decide (k < n) = true := decide_eq_true hlt
      have hlt2 : (k : Int) < n := by omega
      have hxn2 : (x : Int) < n := by omega
      have hr1 : wr.cell? ⟨gO, x, none⟩ = some (.slice (some ⟨gs x, 0, none⟩) n n) := cell_kept (fun hl => hb.block gO hl) (hrow x hx)
      have z1 := (hMl wr hb).cell x hx k hlt
      have z3 : wr.cell? ⟨gG, k, none⟩ = some (.bool false) := cell_kept (fun hl => hb.block gG hl) (hG k hlt)
      have hd2 : (d : Int) ≤ 200 := by omega
      cases hm : M x k with
      | false =>
        rw [hm] at z1
        have hN : 0 < d ↔ ∃ j, j < k + 1 ∧ M x j = true := by
          rw [hiff]
          constructor
          · rintro ⟨j, a, b⟩; exact ⟨j, by omega, b⟩
          · rintro ⟨j, a, b⟩
            by_cases e : j = k
            · subst e; rw [hm] at b; cases b
            · exact ⟨j, by omega, b⟩
        clear hiff
        go_wp2_with (go_at_call 79; refine (sbool_false _).mono ?_; rintro e w' ⟨rfl, rfl⟩)
        go_round
        case rel => exact ⟨k + 1, d, by omega, by omega, by go_num, by first | rfl | go_num, hN, hb, q0⟩
        case measure => simp [intOf]; omega
      | true =>
        rw [hm] at z1
        have hN : 0 < d + 1 ↔ ∃ j, j < k + 1 ∧ M x j = true := ⟨fun _ => ⟨k, by omega, hm⟩, fun _ => by omega⟩
        clear hiff
        go_wp2_with (go_at_call 79; refine (sbool_true _).mono ?_; rintro e w' ⟨rfl, rfl⟩)
        go_round
        case rel => exact ⟨k + 1, d + 1, by omega, by omega, by go_num, by go_num, hN, hb, q0⟩
        case measure => simp [intOf]; omega
    · have hk3 : k = n := by omega
      subst hk3
      have f0 : decide ((k : Int) < k) = false := decide_eq_false (by omega)
      go_wp2_with fail
      go_ret
      exact ⟨d, rfl, hd, hiff, hb⟩
end Go.Proofs.YtbaljljlahhkfaaGreatDoor
