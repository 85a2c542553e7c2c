/- Texts of one proof, joined in their order: each bears its own word of what it holds and on what condition. -/
import Derived.Test.YtbaljljlahhkfaaGreatDoorMN
import Derived.Deep.LoopGhost
import Derived.Test.YtbaljljlahhkfaaGreatDoorML
set_option linter.unusedVariables false
set_option linter.unusedSimpArgs false
/- The specification's reach over a table of links, some nodes gone. Condition: the table is n times n. -/
set_option linter.unusedVariables false
set_option linter.unusedSimpArgs false
namespace Go.Proofs.YtbaljljlahhkfaaGreatDoor
open Go.RowKit Go.Sort

set_option maxHeartbeats 2000000 in
set_option maxRecDepth 100000 in
theorem reach_gone (w : World) (base n : Nat) (hn : n ≤ 200) (v : Value) (gs : Nat → Nat) (M : Nat → Nat → Bool) (hM : Mx base w v n n gs M) (f : Nat) (hf : f < n) (gG cG : Nat) (gone : Nat → Bool) (hG : ∀ j, j < n → w.cell? ⟨gG, j, none⟩ = some (.bool (gone j))) :
    Calls Tryz.prog 35 #[.agg #[v], .int .i64 f, .slice (some ⟨gG, 0, none⟩) n cG] w (ReachR n (Mg M gone) f w) := by
  have hn2 : (n : Int) ≤ 200 := by omega
  have hf2 : (f : Int) < n := by omega
  obtain ⟨C, hC, hCb, hmk⟩ := make_one (T := 55) (E := 4) (z := .bool false) (by' := 1) Tryz.underlying55 (by kernel_rfl) rfl (by decide) n (by omega)
  obtain ⟨i0, hi0, hz0, hz1, hz2⟩ := info_parts (show (Tryz.prog.info? 3).map (fun i => (i.zero, i.size, i.bytes)) = some (some (.int .i64 0), 1, 8) by kernel_rfl)
  obtain ⟨gO, cO, rfl, hrow⟩ := hM.rowcell hf
  have hMl := fun u => hM.below (W' := u)
  go_enter Tryz.func35, Tryz.ntmps35
  go_upto_region 2 with fail
  have hR : Rk w ((w.alloc (.cells #[.slice (some ⟨gO, 0, none⟩) n cO] 53)).alloc (.cells C 4)) (.slice (some ⟨gO, 0, none⟩) n cO) n (fun _ => false) (.slice none 0 0) [] := by
    have n1 : (w.alloc (.cells #[.slice (some ⟨gO, 0, none⟩) n cO] 53)).heap.size = w.heap.size + 1 := by simp
    have b1 := (Below.refl _ (w.alloc (.cells #[.slice (some ⟨gO, 0, none⟩) n cO] 53))).alloc (Nat.le_refl _) (.cells C 4)
    refine ⟨((Below.refl _ w).alloc (Nat.le_refl _) _).trans (b1.mono (by simp)), cell_kept (fun hl => b1.block _ hl) (by rw [World.cell?_alloc_mark]; rfl), fun j hj => ?_, fun o => ?_, World.ownsRow_nil _ _ _ _, by simp⟩
    · rw [← n1, World.cell?_alloc_mark]; exact hCb j hj
    · rw [← n1, World.frozen?_alloc_mark]; simp
  generalize (w.alloc (.cells #[.slice (some ⟨gO, 0, none⟩) n cO] 53)).alloc (.cells C 4) = W0 at hR ⊢
  have z1 := hR.seen f hf
  have z2 := hR.fro f
  go_upto_region 3 with fail
  have hR1 := hR.mark hf
  clear z1 z2 hR
  generalize W0.setCell ⟨w.heap.size + 1, f, none⟩ (.bool true) = W1 at hR1 ⊢
  have hR2 : Rk w (W1.alloc (.cells #[.int .i64 f] 3)) (.slice (some ⟨gO, 0, none⟩) n cO) n (Proofs.YtbaljljlahhkfaaGreatDoor.mark (fun _ => false) f) (.slice (some ⟨W1.heap.size, 0, none⟩) 1 1) [f] := by
    have b1 := (Below.refl _ W1).alloc (Nat.le_refl _) (.cells #[.int .i64 f] 3)
    exact ⟨hR1.below.trans (b1.mono hR1.below.size), cell_kept (fun hl => b1.block _ hl) hR1.b0, fun j hj => cell_kept (fun hl => b1.block _ hl) (hR1.seen j hj), fun o => (World.frozen?_of_block (a := ⟨w.heap.size + 1, o, none⟩) (b1.block (w.heap.size + 1) (by have := hR1.sz; omega))).trans (hR1.fro o), ⟨rfl, .inr ⟨W1.heap.size, 1, #[.int .i64 f], rfl, hR1.sz, heap_alloc_new W1 _, by simp, by unfold maxLen; simp, rfl, rfl⟩⟩, Nat.le_trans hR1.sz b1.size⟩
  have hD : Dfs n (Mg M gone) f [f] (Proofs.YtbaljljlahhkfaaGreatDoor.mark (fun _ => false) f) := by
    refine ⟨by simp [Proofs.YtbaljljlahhkfaaGreatDoor.mark], fun j hj hs => ?_, fun j hj => ?_, fun j hj hs hne => ?_⟩
    · have : j = f := by unfold Proofs.YtbaljljlahhkfaaGreatDoor.mark at hs; split at hs <;> first | assumption | cases hs
      subst this; exact .refl
    · simp at hj; subst hj; exact ⟨hf, by simp [Proofs.YtbaljljlahhkfaaGreatDoor.mark]⟩
    · have : j = f := by unfold Proofs.YtbaljljlahhkfaaGreatDoor.mark at hs; split at hs <;> first | assumption | cases hs
      exact absurd this (by simpa using hne)
  go_wp2_with fail
  generalize W1.alloc (.cells #[.int .i64 f] 3) = W2 at hR2 ⊢
  go_loopg [8] (2 * cnt n (Proofs.YtbaljljlahhkfaaGreatDoor.mark (fun _ => false) f) + 1) (fun gk u wr => ∃ (st : List Nat) (s : Nat → Bool), gk = 2 * cnt n s + st.length ∧ gk ≤ 2 * n + 1 ∧ Dfs n (Mg M gone) f st s ∧ Rk w wr (.slice (some ⟨gO, 0, none⟩) n cO) n s u st)
  case atStart => exact ⟨[f], _, rfl, by have := cnt_le n (Proofs.YtbaljljlahhkfaaGreatDoor.mark (fun _ => false) f); omega, hD, hR2⟩
  case round =>
    clear hD hR2 hR1
    obtain ⟨st, s, hgk, hgb, hD, hR⟩ := hrel
    rcases List.eq_nil_or_concat st with rfl | ⟨st', x, rfl⟩
    · have hdone := hD.done hf
      have hz : u8 = .slice none 0 0 ∨ ∃ a c, u8 = .slice a 0 c := by
        rcases hR.now.2 with ⟨q, _⟩ | ⟨g, cap, cur, q, _⟩
        · exact .inl q
        · exact .inr ⟨_, _, q⟩
      obtain ⟨a0, c0, rfl⟩ : ∃ a c, u8 = .slice a 0 c := by
        rcases hz with q | q
        · exact ⟨_, _, q⟩
        · exact q
      go_wp2_with fail
      go_ret
      exact ⟨w.heap.size + 1, s, rfl, by omega, hR.seen, hdone, hR.below⟩
    · rw [List.concat_eq_append] at hgk hD hR
      have hnow := hR.now
      rw [List.length_append, List.length_singleton, List.map_append] at hnow
      obtain ⟨g, c, rfl, hlast, hgc⟩ := own_last (n := st'.length) hnow (by simp)
      have hdrop := own_drop hnow (by simp)
      have hxn := (hD.stk x (by simp)).1
      have hU := hD.open
      have e1 : ((st'.length : Int) + 1 - 1) = st'.length := by omega
      have e2 : ((st'.length : Int) + 1 - 1).toNat = st'.length := by omega
      have e3 : decide ((0 : Int) < (st'.length : Int) + 1) = true := decide_eq_true (by omega)
      have hR' : Rk w wr (.slice (some ⟨gO, 0, none⟩) n cO) n s (.slice (some ⟨g, 0, none⟩) st'.length c) st' := ⟨hR.below, hR.b0, hR.seen, hR.fro, hdrop, hR.sz⟩
      rw [List.length_append, List.length_singleton] at hgk
      have hlen5 : st'.length ≤ 2000 := by omega
      clear hnow hdrop hR hD
      go_upto_region 7 with fail
      go_wp2_with fail
      go_loopw [8, 10] (fun u8 kk wr => ∃ (k : Nat) (st : List Nat) (s2 : Nat → Bool), k ≤ n ∧ kk = .int .i64 k ∧ 2 * cnt n s2 + st.length ≤ 2 * cnt n s + st'.length ∧ DfsU n (Mg M gone) f x k st s2 ∧ Rk w wr (.slice (some ⟨gO, 0, none⟩) n cO) n s2 u8 st) (fun _ kk wr => n - (intOf kk).toNat)
      case atStart => exact ⟨0, st', s, by omega, rfl, Nat.le_refl _, hU, hR'⟩
      case round =>
        clear hU hR' hlast
        obtain ⟨k, st, s2, hk, rfl, hms, hU, hR⟩ := hrel
        have q0 := hR.b0
        by_cases hlt : k < n
        · have f0 : decide ((k : Int) < n) = true := decide_eq_true (by omega)
          have f0' : decide (k < n) = true := decide_eq_true hlt
          have hlt2 : (k : Int) < n := by omega
          have hxn2 : (x : Int) < n := by omega
          have hr1 : wr.cell? ⟨gO, x, none⟩ = some (.slice (some ⟨gs x, 0, none⟩) n n) := cell_kept (fun hl => hR.below.block gO hl) (hrow x hxn)
          have z1 := (hMl wr hR.below).cell x hxn k hlt
          have z2 := hR.seen k hlt
          have z3 : wr.cell? ⟨gG, k, none⟩ = some (.bool (gone k)) := cell_kept (fun hl => hR.below.block gG hl) (hG k hlt)
          have z4 := hR.fro k
          cases hm : M x k with
          | false =>
            rw [hm] at z1
            have hN := hU.skip (k := k) (fun q => by unfold Mg at q; rw [hm] at q; cases q)
            go_wp2_with fail
            go_round
            case rel => exact ⟨k + 1, st, s2, by omega, by go_num, hms, hN, hR⟩
            case measure => simp [intOf]; omega
          | true =>
            rw [hm] at z1
            cases hs : s2 k with
            | true =>
              rw [hs] at z2
              have hN := hU.skip (k := k) (fun _ => hs)
              go_wp2_with fail
              go_round
              case rel => exact ⟨k + 1, st, s2, by omega, by go_num, hms, hN, hR⟩
              case measure => simp [intOf]; omega
            | false =>
              rw [hs] at z2
              cases hgk : gone k with
              | true =>
                rw [hgk] at z3
                have hN := hU.skip (k := k) (fun q => by unfold Mg at q; rw [hm, hgk] at q; cases q)
                go_wp2_with fail
                go_round
                case rel => exact ⟨k + 1, st, s2, by omega, by go_num, hms, hN, hR⟩
                case measure => simp [intOf]; omega
              | false =>
                rw [hgk] at z3
                have hN := hU.push hlt (show Mg M gone x k = true by unfold Mg; rw [hm, hgk]; rfl)
                have hR2 := hR.mark hlt
                have hcm := cnt_mark n s2 k hlt hs
                go_upto_region 12 with fail
                clear q0 hr1 z1 z2 z3 z4
                generalize wr.setCell ⟨w.heap.size + 1, k, none⟩ (.bool true) = w4 at hR2 ⊢
                have hz4 := hR2.sz
                go_wp2_with (at_builtin; refine wpList_append_lies _ rfl (.tmp 66) (.tmp 68) 91 rfl (w.heap.size + 2) 3 i0 (.int .i64 0) 1 8 Tryz.underlying91 hi0 hz0 hz1 hz2 rfl (by decide) _ st.length (st.map fun j : Nat => Value.int .i64 j) rfl (hR2.now.alloc _) ⟨_, 0, none⟩ 1 1 [.int .i64 k] rfl rfl (new_cells (by simp) _ _) (by intro u hu; simp at hu; subst hu; rfl) (by decide) (by unfold maxLen; omega) (by omega) (by simp; omega) _ rfl ?_; intro gg cap w6 hown6 hgrow6 hat6 hlt6; have hgrow6 : World.grownBy _ w6 u8.ownBlock := hgrow6)
                have hR3 := hR2.push ((Below.refl _ w4).alloc (Nat.le_refl _) (.cells #[.int .i64 k] 3)) hown6 hgrow6
                go_round
                case rel => exact ⟨k + 1, st ++ [k], _, by omega, by go_num, by simp; omega, hN, hR3⟩
                case measure => simp [intOf]; omega
        · have hk3 : k = n := by omega
          subst hk3
          have f0 : decide ((k : Int) < k) = false := decide_eq_false (by omega)
          have hS := hU.shut
          go_wp2_with fail
          go_roundg (2 * cnt k s2 + st.length)
          case measure => omega
          case rel => exact ⟨st, s2, rfl, by omega, hS, hR⟩
end Go.Proofs.YtbaljljlahhkfaaGreatDoor
/- The specification's count of parts, some nodes gone. Condition: the table is n times n. -/
set_option linter.unusedVariables false
set_option linter.unusedSimpArgs false
namespace Go.Proofs.YtbaljljlahhkfaaGreatDoor
open Go.RowKit Go.Sort

theorem Mx.shapeN {base : Nat} {W : World} {v : Value} {k n : Nat} {gs : Nat → Nat} {M : Nat → Nat → Bool} (h : Mx base W v k n gs M) : ∃ a c, v = .slice a k c := by
  rcases h.own.2 with ⟨e, h0⟩ | ⟨g, cap, cur, e, _⟩
  · subst h0; exact ⟨_, _, e⟩
  · exact ⟨_, _, e⟩
theorem Rk.stepN {w W W' : World} {v : Value} {n : Nat} {s : Nat → Bool} (h : Rk w W v n s (.slice none 0 0) []) (hb : Below W.heap.size W W') : Rk w W' v n s (.slice none 0 0) [] :=
  ⟨h.below.trans (hb.mono h.below.size), cell_kept (fun hl => hb.block _ hl) h.b0, fun j hj => cell_kept (fun hl => hb.block _ hl) (h.seen j hj), fun o => (World.frozen?_of_block (a := ⟨w.heap.size + 1, o, none⟩) (hb.block (w.heap.size + 1) (by have := h.sz; omega))).trans (h.fro o), World.ownsRow_nil _ _ _ _, Nat.le_trans h.sz hb.size⟩
theorem Rk.put {w W : World} {v : Value} {n : Nat} {s : Nat → Bool} (h : Rk w W v n s (.slice none 0 0) []) {k : Nat} (hk : k < n) (b : Bool) : Rk w (W.setCell ⟨w.heap.size + 1, k, none⟩ (.bool b)) v n (fun j => if j = k then b else s j) (.slice none 0 0) [] := by
  refine ⟨⟨h.below.os, h.below.tape, h.below.output, by simp [World.setCell]; exact h.below.size, fun b hb => (Below.heap_setCell _ _ _ _ (by show b ≠ w.heap.size + 1; omega)).trans (h.below.block b hb)⟩, (World.cell?_setCell_other _ _ _ _ (by simp)).trans h.b0, fun j hj => ?_, fun o => (World.frozen?_setCell _ _ _ _).trans (h.fro o), World.ownsRow_nil _ _ _ _, by simp [World.setCell]; exact h.sz⟩
  by_cases e : j = k
  · subst e
    rw [if_pos rfl]
    exact World.cell?_setCell_same _ _ _ (h.seen j hj)
  · rw [if_neg e]
    exact (World.cell?_setCell_other _ _ _ _ (fun q => e (by injection q with q1 q2; omega))).trans (h.seen j hj)
end Go.Proofs.YtbaljljlahhkfaaGreatDoor
