/- Texts of one proof, joined in their order: each bears its own word of what it holds and on what condition. -/
import Derived.Test.YtaoccbhdlkflfaaGreatDoorMN
import Derived.Deep.LoopGhost
import Derived.Test.YtaoccbhdlkflfaaGreatDoorML
set_option linter.unusedVariables false
set_option linter.unusedSimpArgs false
/- The specification's reach over a table of links, some nodes gone. Condition: the table is n times n. -/
set_option linter.unusedVariables false
set_option linter.unusedSimpArgs false
namespace Go.Proofs.YtaoccbhdlkflfaaGreatDoor
open Go.RowKit Go.Sort

set_option maxHeartbeats 2000000 in
set_option maxRecDepth 100000 in
theorem reach_gone (w : World) (base n : Nat) (hn : n ≤ 200) (v : Value) (gs : Nat → Nat) (M : Nat → Nat → Bool) (hM : Mx base w v n n gs M) (f : Nat) (hf : f < n) (gG cG : Nat) (gone : Nat → Bool) (hG : ∀ j, j < n → w.cell? ⟨gG, j, none⟩ = some (.bool (gone j))) :
    Calls Tryz.prog 29 #[.agg #[v], .int .i64 f, .slice (some ⟨gG, 0, none⟩) n cG] w (ReachR n (Mg M gone) f w) := by
  have hn2 : (n : Int) ≤ 200 := by omega
  have hf2 : (f : Int) < n := by omega
  obtain ⟨C, hC, hCb, hmk⟩ := make_one (T := 50) (E := 4) (z := .bool false) (by' := 1) Tryz.underlying50 (by kernel_rfl) rfl (by decide) n (by omega)
  obtain ⟨i0, hi0, hz0, hz1, hz2⟩ := info_parts (show (Tryz.prog.info? 3).map (fun i => (i.zero, i.size, i.bytes)) = some (some (.int .i64 0), 1, 8) by kernel_rfl)
  obtain ⟨gO, cO, rfl, hrow⟩ := hM.rowcell hf
  have hMl := fun u => hM.below (W' := u)
  go_enter Tryz.func29, Tryz.ntmps29
  go_upto_region 2 with fail
  have hR : Rk w ((w.alloc (.cells #[.slice (some ⟨gO, 0, none⟩) n cO] 48)).alloc (.cells C 4)) (.slice (some ⟨gO, 0, none⟩) n cO) n (fun _ => false) (.slice none 0 0) [] := by
    have n1 : (w.alloc (.cells #[.slice (some ⟨gO, 0, none⟩) n cO] 48)).heap.size = w.heap.size + 1 := by simp
    have b1 := (Below.refl _ (w.alloc (.cells #[.slice (some ⟨gO, 0, none⟩) n cO] 48))).alloc (Nat.le_refl _) (.cells C 4)
    refine ⟨((Below.refl _ w).alloc (Nat.le_refl _) _).trans (b1.mono (by simp)), cell_kept (fun hl => b1.block _ hl) (by rw [World.cell?_alloc_mark]; rfl), fun j hj => ?_, fun o => ?_, World.ownsRow_nil _ _ _ _, by simp⟩
    · rw [← n1, World.cell?_alloc_mark]; exact hCb j hj
    · rw [← n1, World.frozen?_alloc_mark]; simp
  generalize (w.alloc (.cells #[.slice (some ⟨gO, 0, none⟩) n cO] 48)).alloc (.cells C 4) = W0 at hR ⊢
  have z1 := hR.seen f hf
  have z2 := hR.fro f
  go_upto_region 3 with fail
  have hR1 := hR.mark hf
  clear z1 z2 hR
  generalize W0.setCell ⟨w.heap.size + 1, f, none⟩ (.bool true) = W1 at hR1 ⊢
  have hR2 : Rk w (W1.alloc (.cells #[.int .i64 f] 3)) (.slice (some ⟨gO, 0, none⟩) n cO) n (Proofs.YtaoccbhdlkflfaaGreatDoor.mark (fun _ => false) f) (.slice (some ⟨W1.heap.size, 0, none⟩) 1 1) [f] := by
    have b1 := (Below.refl _ W1).alloc (Nat.le_refl _) (.cells #[.int .i64 f] 3)
    exact ⟨hR1.below.trans (b1.mono hR1.below.size), cell_kept (fun hl => b1.block _ hl) hR1.b0, fun j hj => cell_kept (fun hl => b1.block _ hl) (hR1.seen j hj), fun o => (World.frozen?_of_block (a := ⟨w.heap.size + 1, o, none⟩) (b1.block (w.heap.size + 1) (by have := hR1.sz; omega))).trans (hR1.fro o), ⟨rfl, .inr ⟨W1.heap.size, 1, #[.int .i64 f], rfl, hR1.sz, heap_alloc_new W1 _, by simp, by unfold maxLen; simp, rfl, rfl⟩⟩, Nat.le_trans hR1.sz b1.size⟩
  have hD : Dfs n (Mg M gone) f [f] (Proofs.YtaoccbhdlkflfaaGreatDoor.mark (fun _ => false) f) := by
    refine ⟨by simp [Proofs.YtaoccbhdlkflfaaGreatDoor.mark], fun j hj hs => ?_, fun j hj => ?_, fun j hj hs hne => ?_⟩
    · have : j = f := by unfold Proofs.YtaoccbhdlkflfaaGreatDoor.mark at hs; split at hs <;> first | assumption | cases hs
      subst this; exact .refl
    · simp at hj; subst hj; exact ⟨hf, by simp [Proofs.YtaoccbhdlkflfaaGreatDoor.mark]⟩
    · have : j = f := by unfold Proofs.YtaoccbhdlkflfaaGreatDoor.mark at hs; split at hs <;> first | assumption | cases hs
      exact absurd this (by simpa using hne)
  go_wp2_with fail
  generalize W1.alloc (.cells #[.int .i64 f] 3) = W2 at hR2 ⊢
  go_loopg [8] (2 * cnt n (Proofs.YtaoccbhdlkflfaaGreatDoor.mark (fun _ => false) f) + 1) (fun gk u wr => ∃ (st : List Nat) (s : Nat → Bool), gk = 2 * cnt n s + st.length ∧ gk ≤ 2 * n + 1 ∧ Dfs n (Mg M gone) f st s ∧ Rk w wr (.slice (some ⟨gO, 0, none⟩) n cO) n s u st)
  case atStart => exact ⟨[f], _, rfl, by have := cnt_le n (Proofs.YtaoccbhdlkflfaaGreatDoor.mark (fun _ => false) f); omega, hD, hR2⟩
  case round =>
    clear hD hR2 hR1
    obtain ⟨st, s, hgk, hgb, hD, hR⟩ := hrel
    rcases List.eq_nil_or_concat st with rfl | ⟨st', x, rfl⟩
    · have hdone := hD.done hf
      have hz : u8 = .slice none 0 0 ∨ ∃ a c, u8 = .slice a 0 c := by
        rcases hR.now.2 with ⟨q, _⟩ | ⟨g, cap, cur, q, _⟩
        · exact .inl q
        · exact .inr ⟨_, _, q⟩
      obtain ⟨a0, c0, rfl⟩ : ∃ a c, u8 = .slice a 0 c := by
        rcases hz with q | q
        · exact ⟨_, _, q⟩
        · exact q
      go_wp2_with fail
      go_ret
      exact ⟨w.heap.size + 1, s, rfl, by omega, hR.seen, hdone, hR.below⟩
    · rw [List.concat_eq_append] at hgk hD hR
      have hnow := hR.now
      rw [List.length_append, List.length_singleton, List.map_append] at hnow
      obtain ⟨g, c, rfl, hlast, hgc⟩ := own_last (n := st'.length) hnow (by simp)
      have hdrop := own_drop hnow (by simp)
      have hxn := (hD.stk x (by simp)).1
      have hU := hD.open
      have e1 : ((st'.length : Int) + 1 - 1) = st'.length := by omega
      have e2 : ((st'.length : Int) + 1 - 1).toNat = st'.length := by omega
      have e3 : decide ((0 : Int) < (st'.length : Int) + 1) = true := decide_eq_true (by omega)
      have hR' : Rk w wr (.slice (some ⟨gO, 0, none⟩) n cO) n s (.slice (some ⟨g, 0, none⟩) st'.length c) st' := ⟨hR.below, hR.b0, hR.seen, hR.fro, hdrop, hR.sz⟩
      rw [List.length_append, List.length_singleton] at hgk
      have hlen5 : st'.length ≤ 2000 := by omega
      clear hnow hdrop hR hD
      go_upto_region 7 with fail
      go_wp2_with fail
      go_loopw [8, 10] (fun u8 kk wr => ∃ (k : Nat) (st : List Nat) (s2 : Nat → Bool), k ≤ n ∧ kk = .int .i64 k ∧ 2 * cnt n s2 + st.length ≤ 2 * cnt n s + st'.length ∧ DfsU n (Mg M gone) f x k st s2 ∧ Rk w wr (.slice (some ⟨gO, 0, none⟩) n cO) n s2 u8 st) (fun _ kk wr => n - (intOf kk).toNat)
      case atStart => exact ⟨0, st', s, by omega, rfl, Nat.le_refl _, hU, hR'⟩
      case round =>
        clear hU hR' hlast
        obtain ⟨k, st, s2, hk, rfl, hms, hU, hR⟩ := hrel
        have q0 := hR.b0
        by_cases hlt : k < n
        · have f0 : decide ((k : Int) < n) = true := decide_eq_true (by omega)
          have f0' : decide (k < n) = true := decide_eq_true hlt
          have hlt2 : (k : Int) < n := by omega
          have hxn2 : (x : Int) < n := by omega
          have hr1 : wr.cell? ⟨gO, x, none⟩ = some (.slice (some ⟨gs x, 0, none⟩) n n) := cell_kept (fun hl => hR.below.block gO hl) (hrow x hxn)
          have z1 := (hMl wr hR.below).cell x hxn k hlt
          have z2 := hR.seen k hlt
          have z3 : wr.cell? ⟨gG, k, none⟩ = some (.bool (gone k)) := cell_kept (fun hl => hR.below.block gG hl) (hG k hlt)
          have z4 := hR.fro k
          cases hm : M x k with
          | false =>
            rw [hm] at z1
            have hN := hU.skip (k := k) (fun q => by unfold Mg at q; rw [hm] at q; cases q)
            go_wp2_with fail
            go_round
            case rel => exact ⟨k + 1, st, s2, by omega, by go_num, hms, hN, hR⟩
            case measure => simp [intOf]; omega
          | true =>
            rw [hm] at z1
            cases hs : s2 k with
            | true =>
              rw [hs] at z2
              have hN := hU.skip (k := k) (fun _ => hs)
              go_wp2_with fail
              go_round
              case rel => exact ⟨k + 1, st, s2, by omega, by go_num, hms, hN, hR⟩
              case measure => simp [intOf]; omega
            | false =>
              rw [hs] at z2
              cases hgk : gone k with
              | true =>
                rw [hgk] at z3
                have hN := hU.skip (k := k) (fun q => by unfold Mg at q; rw [hm, hgk] at q; cases q)
                go_wp2_with fail
                go_round
                case rel => exact ⟨k + 1, st, s2, by omega, by go_num, hms, hN, hR⟩
                case measure => simp [intOf]; omega
              | false =>
                rw [hgk] at z3
                have hN := hU.push hlt (show Mg M gone x k = true by unfold Mg; rw [hm, hgk]; rfl)
                have hR2 := hR.mark hlt
                have hcm := cnt_mark n s2 k hlt hs
                go_upto_region 12 with fail
                clear q0 hr1 z1 z2 z3 z4
                generalize wr.setCell ⟨w.heap.size + 1, k, none⟩ (.bool true) = w4 at hR2 ⊢
                have hz4 := hR2.sz
                go_wp2_with (at_builtin; refine wpList_append_lies _ rfl (.tmp 66) (.tmp 68) 94 rfl (w.heap.size + 2) 3 i0 (.int .i64 0) 1 8 Tryz.underlying94 hi0 hz0 hz1 hz2 rfl (by decide) _ st.length (st.map fun j : Nat => Value.int .i64 j) rfl (hR2.now.alloc _) ⟨_, 0, none⟩ 1 1 [.int .i64 k] rfl rfl (new_cells (by simp) _ _) (by intro u hu; simp at hu; subst hu; rfl) (by decide) (by unfold maxLen; omega) (by omega) (by simp; omega) _ rfl ?_; intro gg cap w6 hown6 hgrow6 hat6 hlt6; have hgrow6 : World.grownBy _ w6 u8.ownBlock := hgrow6)
                have hR3 := hR2.push ((Below.refl _ w4).alloc (Nat.le_refl _) (.cells #[.int .i64 k] 3)) hown6 hgrow6
                go_round
                case rel => exact ⟨k + 1, st ++ [k], _, by omega, by go_num, by simp; omega, hN, hR3⟩
                case measure => simp [intOf]; omega
        · have hk3 : k = n := by omega
          subst hk3
          have f0 : decide ((k : Int) < k) = false := decide_eq_false (by omega)
          have hS := hU.shut
          go_wp2_with fail
          go_roundg (2 * cnt k s2 + st.length)
          case measure => omega
          case rel => exact ⟨st, s2, rfl, by omega, hS, hR⟩
end Go.Proofs.YtaoccbhdlkflfaaGreatDoor
/- The specification's count of parts, some nodes gone. Condition: the table is n times n. -/
set_option linter.unusedVariables false
set_option linter.unusedSimpArgs false
namespace Go.Proofs.YtaoccbhdlkflfaaGreatDoor
open Go.RowKit Go.Sort

theorem Mx.shapeN {base : Nat} {W : World} {v : Value} {k n : Nat} {gs : Nat → Nat} {M : Nat → Nat → Bool} (h : Mx base W v k n gs M) : ∃ a c, v = .slice a k c := by
  rcases h.own.2 with ⟨e, h0⟩ | ⟨g, cap, cur, e, _⟩
  · subst h0; exact ⟨_, _, e⟩
  · exact ⟨_, _, e⟩
theorem Rk.stepN {w W W' : World} {v : Value} {n : Nat} {s : Nat → Bool} (h : Rk w W v n s (.slice none 0 0) []) (hb : Below W.heap.size W W') : Rk w W' v n s (.slice none 0 0) [] :=
  ⟨h.below.trans (hb.mono h.below.size), cell_kept (fun hl => hb.block _ hl) h.b0, fun j hj => cell_kept (fun hl => hb.block _ hl) (h.seen j hj), fun o => (World.frozen?_of_block (a := ⟨w.heap.size + 1, o, none⟩) (hb.block (w.heap.size + 1) (by have := h.sz; omega))).trans (h.fro o), World.ownsRow_nil _ _ _ _, Nat.le_trans h.sz hb.size⟩
theorem Rk.put {w W : World} {v : Value} {n : Nat} {s : Nat → Bool} (h : Rk w W v n s (.slice none 0 0) []) {k : Nat} (hk : k < n) (b : Bool) : Rk w (W.setCell ⟨w.heap.size + 1, k, none⟩ (.bool b)) v n (fun j => if j = k then b else s j) (.slice none 0 0) [] := by
  refine ⟨⟨h.below.os, h.below.tape, h.below.output, by simp [World.setCell]; exact h.below.size, fun b hb => (Below.heap_setCell _ _ _ _ (by show b ≠ w.heap.size + 1; omega)).trans (h.below.block b hb)⟩, (World.cell?_setCell_other _ _ _ _ (by simp)).trans h.b0, fun j hj => ?_, fun o => (World.frozen?_setCell _ _ _ _).trans (h.fro o), World.ownsRow_nil _ _ _ _, by simp [World.setCell]; exact h.sz⟩
  by_cases e : j = k
  · subst e
    rw [if_pos rfl]
    exact World.cell?_setCell_same _ _ _ (h.seen j hj)
  · rw [if_neg e]
    exact (World.cell?_setCell_other _ _ _ _ (fun q => e (by injection q with q1 q2; omega))).trans (h.seen j hj)
set_option maxHeartbeats 2000000 in
set_option maxRecDepth 100000 in
theorem scount_any (w : World) (base n : Nat) (hn : n ≤ 200) (v : Value) (gs : Nat → Nat) (M : Nat → Nat → Bool) (hM : Mx base w v n n gs M) (gG cG : Nat) (gone : Nat → Bool) (hG : ∀ j, j < n → w.cell? ⟨gG, j, none⟩ = some (.bool (gone j))) :
    Calls Tryz.prog 42 #[.agg #[v], .slice (some ⟨gG, 0, none⟩) n cG] w (CountR (StS n M gone) w) := by
  have hn2 : (n : Int) ≤ 200 := by omega
  obtain ⟨C, hC, hCb, hmk⟩ := make_one (T := 50) (E := 4) (z := .bool false) (by' := 1) Tryz.underlying50 (by kernel_rfl) rfl (by decide) n (by omega)
  have hMl := fun u => hM.below (W' := u)
  obtain ⟨l1, l3, rfl⟩ := hM.shapeN
  go_enter Tryz.func42, Tryz.ntmps42
  go_upto_region 2 with fail
  have hR : Rk w ((w.alloc (.cells #[.slice l1 n l3] 48)).alloc (.cells C 4)) (.slice l1 n l3) n (fun _ => false) (.slice none 0 0) [] := by
    have n1 : (w.alloc (.cells #[.slice l1 n l3] 48)).heap.size = w.heap.size + 1 := by simp
    have b1 := (Below.refl _ (w.alloc (.cells #[.slice l1 n l3] 48))).alloc (Nat.le_refl _) (.cells C 4)
    refine ⟨((Below.refl _ w).alloc (Nat.le_refl _) _).trans (b1.mono (by simp)), cell_kept (fun hl => b1.block _ hl) (by rw [World.cell?_alloc_mark]; rfl), fun j hj => ?_, fun o => ?_, World.ownsRow_nil _ _ _ _, by simp⟩
    · rw [← n1, World.cell?_alloc_mark]; exact hCb j hj
    · rw [← n1, World.frozen?_alloc_mark]; simp
  generalize (w.alloc (.cells #[.slice l1 n l3] 48)).alloc (.cells C 4) = W0 at hR ⊢
  have hN := Cnt.start n M gone
  go_wp2_with fail
  go_loopw [6, 7, 8, 9] (fun cc i _ _ wr => ∃ (k c : Nat) (seen : Nat → Bool), k ≤ n ∧ i = .int .i64 k ∧ cc = .int .i64 c ∧ Cnt n M gone k seen c ∧ Rk w wr (.slice l1 n l3) n seen (.slice none 0 0) []) (fun _ i _ _ wr => n - (intOf i).toNat)
  case atStart => exact ⟨0, 0, _, by omega, rfl, rfl, hN, hR⟩
  case round =>
    clear hR hN
    obtain ⟨k, c, seen, hk, rfl, rfl, hN, hR⟩ := hrel
    have q0 := hR.b0
    by_cases hlt : k < n
    · have f0 : decide ((k : Int) < n) = true := decide_eq_true (by omega)
      have f0' : decide (k < n) = true := decide_eq_true hlt
      have hlt2 : (k : Int) < n := by omega
      have z1 : wr.cell? ⟨gG, k, none⟩ = some (.bool (gone k)) := cell_kept (fun hl => hR.below.block gG hl) (hG k hlt)
      have z2 := hR.seen k hlt
      have hcn := hN.le
      have hcn2 : (c : Int) ≤ 200 := by omega
      cases hgk : gone k with
      | true =>
        rw [hgk] at z1
        have hS := hN.skip hlt (.inl hgk)
        go_wp2_with fail
        go_round
        case rel => exact ⟨k + 1, c, seen, by omega, by go_num, rfl, hS, hR⟩
        case measure => simp [intOf]; omega
      | false =>
        rw [hgk] at z1
        cases hsk : seen k with
        | true =>
          rw [hsk] at z2
          have hS := hN.skip hlt (.inr hsk)
          go_wp2_with fail
          go_round
          case rel => exact ⟨k + 1, c, seen, by omega, by go_num, rfl, hS, hR⟩
          case measure => simp [intOf]; omega
        | false =>
          rw [hsk] at z2
          have hcl : Calls Tryz.prog 29 #[.agg #[.slice l1 n l3], .int .i64 k, .slice (some ⟨gG, 0, none⟩) n cG] wr (ReachR n (Mg M gone) k wr) :=
            reach_gone wr base n hn (.slice l1 n l3) gs M (hMl wr hR.below) k hlt gG cG gone (fun j hj => cell_kept (fun hl => hR.below.block gG hl) (hG j hj))
          go_upto_region 9 with (go_at_call 29; refine hcl.mono ?_; rintro e w5 ⟨gS, s, rfl, hgS, hsee, hrch, hb5⟩)
          have hR5 := hR.stepN hb5
          have hgS2 : w.heap.size + 2 ≤ gS := Nat.le_trans hR.sz hgS
          clear q0 z1 z2 hcl hb5 hgS hR
          go_wp2_with fail
          go_loopw [9] (fun kk wr => ∃ (m : Nat) (seen2 : Nat → Bool), m ≤ n ∧ kk = .int .i64 m ∧ Rk w wr (.slice l1 n l3) n seen2 (.slice none 0 0) [] ∧ (∀ j, j < n → wr.cell? ⟨gS, j, none⟩ = some (.bool (s j))) ∧ ∀ j, j < n → seen2 j = if j < m then (seen j || s j) else seen j) (fun kk wr => n - (intOf kk).toNat)
          case atStart => exact ⟨0, seen, by omega, rfl, hR5, hsee, fun j hj => by simp⟩
          case round =>
            clear hR5 hsee
            obtain ⟨m, seen2, hm, rfl, hR, hsee, hsn⟩ := hrel
            by_cases hlm : m < n
            · have f1 : decide ((m : Int) < n) = true := decide_eq_true (by omega)
              have f1' : decide (m < n) = true := decide_eq_true hlm
              have hlm2 : (m : Int) < n := by omega
              have z1 := hR.seen m hlm
              have z2 := hsee m hlm
              have z4 := hR.fro m
              have hst : ∀ b : Bool, (seen m || s m) = b → (∀ j, j < n → (wr.setCell ⟨w.heap.size + 1, m, none⟩ (.bool b)).cell? ⟨gS, j, none⟩ = some (.bool (s j))) ∧ ∀ j, j < n → (fun j => if j = m then b else seen2 j) j = if j < m + 1 then (seen j || s j) else seen j := fun b hb => by
                refine ⟨fun j hj => (World.cell?_setCell_other _ _ _ _ (fun q => by injection q with q1 q2; omega)).trans (hsee j hj), fun j hj => ?_⟩
                show (if j = m then b else seen2 j) = _
                by_cases e : j = m
                · subst e; rw [if_pos rfl, if_pos (by omega)]; exact hb.symm
                · rw [if_neg e, hsn j hj]
                  by_cases e2 : j < m
                  · rw [if_pos e2, if_pos (by omega)]
                  · rw [if_neg e2, if_neg (by omega)]
              have hs2 := hsn m hlm
              rw [if_neg (by omega)] at hs2
              cases h1 : seen2 m with
              | true =>
                rw [h1] at z1 hs2
                have hR2 := hR.put hlm true
                obtain ⟨t1, t2⟩ := hst true (by rw [← hs2]; rfl)
                clear hs2
                go_wp2_with fail
                go_round
                case rel => exact ⟨m + 1, _, by omega, by go_num, hR2, t1, t2⟩
                case measure => simp [intOf]; omega
              | false =>
                rw [h1] at z1 hs2
                cases h2 : s m with
                | true =>
                  rw [h2] at z2
                  have hR2 := hR.put hlm true
                  obtain ⟨t1, t2⟩ := hst true (by rw [h2]; simp)
                  clear hs2
                  go_wp2_with fail
                  go_round
                  case rel => exact ⟨m + 1, _, by omega, by go_num, hR2, t1, t2⟩
                  case measure => simp [intOf]; omega
                | false =>
                  rw [h2] at z2
                  have hR2 := hR.put hlm false
                  obtain ⟨t1, t2⟩ := hst false (by rw [h2, ← hs2]; rfl)
                  clear hs2
                  go_wp2_with fail
                  go_round
                  case rel => exact ⟨m + 1, _, by omega, by go_num, hR2, t1, t2⟩
                  case measure => simp [intOf]; omega
            · have hm3 : m = n := by omega
              subst hm3
              have f1 : decide ((m : Int) < m) = false := decide_eq_false (by omega)
              have hT := hN.take hlt hgk hsk hrch (seen' := seen2) (fun j hj => by rw [hsn j hj, if_pos hj])
              go_wp2_with fail
              go_round
              case rel => exact ⟨k + 1, c + 1, seen2, by omega, by go_num, by go_num, hT, hR⟩
              case measure => simp [intOf]; omega
    · have hk3 : k = n := by omega
      subst hk3
      have f0 : decide ((k : Int) < k) = false := decide_eq_false (by omega)
      go_wp2_with fail
      go_ret
      exact ⟨c, rfl, hN.done, by have := hN.le; omega, hR.below⟩
end Go.Proofs.YtaoccbhdlkflfaaGreatDoor
