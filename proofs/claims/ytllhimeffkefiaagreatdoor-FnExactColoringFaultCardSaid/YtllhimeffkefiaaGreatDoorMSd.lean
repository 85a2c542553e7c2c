/- Texts of one proof, joined in their order: each bears its own word of what it holds and on what condition. -/
import Derived.Test.YtllhimeffkefiaaGreatDoorMF
import Derived.Test.YtllhimeffkefiaaGreatDoorMA
set_option linter.unusedVariables false
set_option linter.unusedSimpArgs false
/- The specification's reading of numbers. Condition: texts of at most 2^20 bytes. -/
set_option linter.unusedVariables false
namespace Go.Proofs.YtllhimeffkefiaaGreatDoor
open Go.RowKit Go.Sort

def NumS (r : Nat) (t : ByteArray) (i : Nat) (b : Bool) (w : World) (e : Ending) (w' : World) : Prop :=
  ∃ n, e = .returned (.int .i64 n) ∧ Sr w' r t (numEnd t i) (b || (pNum t i).isNone) ∧ To r w w' ∧ ∀ v, pNum t i = some v → n = v
def lefS (r : Nat) (t : ByteArray) (w : World) : Nat := match w.cell? ⟨r, 1, none⟩ with
  | some v => t.size - (intOf v).toNat
  | none => 0
theorem Sr.lef {w : World} {r : Nat} {t : ByteArray} {i : Nat} {b : Bool} (h : Sr w r t i b) : lefS r t w = t.size - i := by
  unfold lefS
  rw [h.c1]
  simp [intOf]
theorem wrap64_is (x : Int) : wrap64 x = IntKind.i64.wrap x := by rw [wrap64_eq]; unfold wrap64; omega
theorem sdigit_is (n : Int) (w : World) (b : Bool) (h : digB n = b) : Calls Tryz.prog 116 #[.int .u8 n] w (BoolR b w) := h ▸ l01Digit_any n w
set_option maxHeartbeats 2000000 in
set_option maxRecDepth 100000 in
theorem snum_any (w : World) (r : Nat) (t : ByteArray) (i : Nat) (b : Bool) (h : Sr w r t i b) : Calls Tryz.prog 152 #[.pointer (some ⟨r, 0, none⟩)] w (NumS r t i b w) := by
  have c0 := h.c0
  have c1 := h.c1
  have f1 := h.f1
  have hi := h.le
  have HI0 := Lib.hid h.le
  have hz := h.sz
  have hbd := numAt_bd h.le
  have hE := Lib.hid (run_bd digB t hbd.2)
  have HE0 : Hid (numEnd t i = run digB t (numAt t i)) := Lib.hid rfl
  by_cases hm : byI t i = 45
  · have hlt := byI_lt (t := t) (i := i) (by rw [hm]; decide)
    have hm2 : ((t[i].toNat : Int) == 45) = true := by rw [← byI_eq hlt]; simpa using hm
    have HA : Hid (numAt t i = i + 1) := Lib.hid (by unfold numAt; rw [if_pos hm])
    have HM0 := Lib.hid hm
    have g1 : decide ((i : Int) < t.size) = true := decide_eq_true (by omega)
    have g2 : (i : Int) < t.size := by omega
    clear hm
    go_enter Tryz.func152, Tryz.ntmps152
    go_wp2_with fail
    go_big_quiet (fail)
    have hr1 := h.below (drewN_below w nq)
    have ht1 := To.of (r := r) (drewN_below w nq)
    generalize w.drewN nq = w1 at hr1 ht1 ⊢
    clear c0 c1 f1 nq
    have c1 := hr1.c1
    have f1 := hr1.f1
    have hrs := hr1.set (i + 1) (by omega)
    have hts := ht1.trans (To.set r w1 1 (.int .i64 ((i + 1 : Nat))))
    push_cast at hrs hts
    go_wp2_with fail
    clear c1 f1
    generalize w1.setCell ⟨r, 1, none⟩ (.int .i64 ((i : Int) + 1)) = w2 at hrs hts ⊢
    go_loopw [4] (fun v wr => ∃ k : Nat, i + 1 ≤ k ∧ k ≤ t.size ∧ v = .int .i64 (nfold t (i + 1) (k - (i + 1))) ∧ Hid (numEnd t i = run digB t k) ∧ Sr wr r t k b ∧ To r w wr) (fun _ wr => lefS r t wr)
    case atStart => exact ⟨i + 1, Nat.le_refl _, by omega, by simp [nfold], Lib.hid (by rw [HE0.out, HA.out]), hrs, hts⟩
    case round =>
      obtain ⟨k, hka, hkz, rfl, HR, hrk, htk⟩ := hrel
      obtain ⟨n, HN⟩ : ∃ n, Hid (nfold t (i + 1) (k - (i + 1)) = n) := ⟨_, Lib.hid rfl⟩
      have hnr := nfold_rng t (i + 1) (k - (i + 1))
      rw [HN.out] at hnr ⊢
      have q0 := hrk.c0
      have q1 := hrk.c1
      by_cases hlk : k < t.size
      · have g3 : decide ((k : Int) < t.size) = true := decide_eq_true (by omega)
        have g4 : (k : Int) < t.size := by omega
        obtain ⟨x, hx⟩ : ∃ x : Int, byI t k = x := ⟨_, rfl⟩
        have hx' : (t[k].toNat : Int) = x := by rw [← hx, byI_eq hlk]
        cases hdg : digB x with
        | true =>
          have HG := Lib.hid (run_go (q := digB) hlk (by rw [hx]; exact hdg))
          have hx3 : 48 ≤ x ∧ x ≤ 57 := by simpa [digB] using hdg
          obtain ⟨x4, x5⟩ := hx3
          have x6 : decide (x < 48) = false := decide_eq_false (by omega)
          go_wp2_with fail
          go_big_quiet ((go_at_call 116; exact Calls.quiet_of_same ((sdigit_is _ _ _ hdg).mono fun e w' h => ⟨h.1, h.2.symm⟩)))
          have hr5 := hrk.below (drewN_below wr nq)
          have ht5 := htk.trans (To.of (drewN_below wr nq))
          have hz5 : lefS r t wr = t.size - k := hrk.lef
          generalize wr.drewN nq = w5 at hr5 ht5 ⊢
          clear q0 q1 nq
          have q0 := hr5.c0
          have q1 := hr5.c1
          go_wp2_with fail
          go_big_quiet (fail)
          have hr6 := hr5.below (drewN_below w5 nq)
          have ht6 := ht5.trans (To.of (drewN_below w5 nq))
          generalize w5.drewN nq = w6 at hr6 ht6 ⊢
          clear q0 q1 nq
          have q0 := hr6.c0
          have q1 := hr6.c1
          have q2 := hr6.f1
          have hr7 := hr6.set (k + 1) (by omega)
          have ht7 := ht6.trans (To.set r w6 1 (.int .i64 ((k + 1 : Nat))))
          push_cast at hr7 ht7
          go_wp2_with fail
          go_roundw
          case rel =>
            refine ⟨k + 1, by omega, by omega, ?_, Lib.hid (HR.out.trans HG.out), hr7, ht7⟩
            rw [show k + 1 - (i + 1) = (k - (i + 1)) + 1 by omega]
            unfold nfold
            rw [HN.out, show (i + 1) + (k - (i + 1)) = k by omega, hx]
            rw [wrap64_is, wrap64_is]
          case measure =>
            rw [hr7.lef, hz5]
            omega
        | false =>
          have HK : Hid (numEnd t i = k) := Lib.hid (HR.out.trans (run_stop (fun h => by rw [hx, hdg] at h; exact absurd h.2 (by decide))))
          go_wp2_with fail
          go_big_quiet ((go_at_call 116; exact Calls.quiet_of_same ((sdigit_is _ _ _ hdg).mono fun e w' h => ⟨h.1, h.2.symm⟩)))
          replace hrk := hrk.below (drewN_below wr nq)
          replace htk := htk.trans (To.of (drewN_below wr nq))
          generalize wr.drewN nq = wk at hrk htk ⊢
          clear q0 q1 nq hx' hx hdg HR
          have q1 := hrk.c1
          have q0 := hrk.c0
          have q2 := hrk.f2
          have hkz : (k : Int) ≤ t.size := by omega

          have e1 : decide ((i : Int) < k) = true := decide_eq_true (by omega)
          have e2 : decide (i < k) = true := decide_eq_true (by omega)
          have e3 : (i : Int) < k := by omega
          have e6 : (i : Int) ≤ k := by omega
          have e4 : i < k := by omega
          obtain ⟨m, hm⟩ : ∃ m, IntKind.i64.wrap (-n) = m := ⟨_, rfl⟩
          have HM : Hid (numS t i = m) := Lib.hid (by unfold numS; rw [if_pos HM0.out, HA.out, HK.out, HN.out, hm])
          have hmr := wrap64_rng (-n)
          have hm4 : wrap64 (-n) = m := by rw [wrap64_is, hm]
          rw [hm] at hmr
          clear hnr

          by_cases h20 : 20 < k - i
          · have HP : Hid (pNum t i = none) := Lib.hid (by
              cases hp : pNum t i with
              | none => rfl
              | some v => have := pNum_val HI0.out hp; rw [HK.out] at this; omega)
            have f3 : ((i : Int) == k) = false := by simp; omega
            have f3' : (i == k) = false := by simp; omega
            have f4 : decide ((20 : Int) < (k : Int) - i) = true := decide_eq_true (by omega)
            go_wp2_with fail
            go_big_quiet (fail)
            have hr5 := hrk.below (drewN_below wk nq)
            have ht5 := htk.trans (To.of (drewN_below wk nq))
            generalize wk.drewN nq = w5 at hr5 ht5 ⊢
            have z2 := hr5.f2
            have z3 := hr5.c2
            have hr6 := hr5.flag true
            have ht6 := ht5.trans (To.set r w5 2 (.bool true))
            go_wp2_with fail
            go_ret
            exact ⟨_, rfl, by rw [HK.out, HP.out]; simpa using hr6, ht6, fun v hv => by rw [HP.out] at hv; cases hv⟩

          · have f3 : ((i : Int) == k) = false := by simp; omega
            have f3' : (i == k) = false := by simp; omega
            have f4 : decide ((20 : Int) < (k : Int) - i) = false := decide_eq_false (by omega)
            by_cases hd : decS m = t.extract i k
            · have HP : Hid (pNum t i = some m) := Lib.hid (by rw [← HM.out]; exact pNum_back (by rw [HM.out, HK.out]; exact hd))
              have hd' : (!((decS m).toList == (t.extract i k).toList)) = false := by rw [hd]; simp
              clear hd
              go_wp2_with fail
              refine region_ext (by kernel_rfl) (by kernel_rfl) ?_
              have y0 := Ext.cell q0
              have y1 := Ext.cell q1
              repeat (first | go_big_quiet_skip | (go_big_quiet_want; go_big_quiet_op; first | go_big_quiet_on | (refine ⟨_, fun u => (dec_any m hmr.1 hmr.2 u.w).mono fun e w' h => ⟨h.1, ⟨w', u.below.trans (h.2.mono u.below.size)⟩, rfl⟩, ?_⟩; go_big_quiet_on)))
              refine wpQuiet_nil ?_
              intro w6 hb6
              clear y0 y1
              have hr6 := hrk.below hb6
              have ht6 := htk.trans (To.of hb6)

              go_wp2_with fail
              go_ret
              exact ⟨m, rfl, by rw [HK.out, HP.out]; simpa using hr6, ht6, fun v hv => by rw [HP.out] at hv; cases hv; rfl⟩
            · have HP : Hid (pNum t i = none) := Lib.hid (by
                cases hp : pNum t i with
                | none => rfl
                | some v => have := (pNum_val HI0.out hp).2.2.2; rw [HK.out, HM.out] at this; exact absurd this hd)
              have hd' : (!((decS m).toList == (t.extract i k).toList)) = true := str_ne hd
              clear hd
              go_wp2_with fail
              refine region_ext (by kernel_rfl) (by kernel_rfl) ?_
              have y0 := Ext.cell q0
              have y1 := Ext.cell q1
              repeat (first | go_big_quiet_skip | (go_big_quiet_want; go_big_quiet_op; first | go_big_quiet_on | (refine ⟨_, fun u => (dec_any m hmr.1 hmr.2 u.w).mono fun e w' h => ⟨h.1, ⟨w', u.below.trans (h.2.mono u.below.size)⟩, rfl⟩, ?_⟩; go_big_quiet_on)))
              refine wpQuiet_nil ?_
              intro w6 hb6
              clear y0 y1
              have hr6 := hrk.below hb6
              have ht6 := htk.trans (To.of hb6)

              have z2 := hr6.f2
              have z3 := hr6.c2
              have hr7 := hr6.flag true
              have ht7 := ht6.trans (To.set r w6 2 (.bool true))
              go_wp2_with fail
              go_ret
              exact ⟨_, rfl, by rw [HK.out, HP.out]; simpa using hr7, ht7, fun v hv => by rw [HP.out] at hv; cases hv⟩

      · have g3 : decide ((k : Int) < t.size) = false := decide_eq_false (by omega)
        have HK : Hid (numEnd t i = k) := Lib.hid (HR.out.trans (run_stop (fun h => hlk h.1)))
        go_wp2_with fail
        go_big_quiet (fail)
        replace hrk := hrk.below (drewN_below wr nq)
        replace htk := htk.trans (To.of (drewN_below wr nq))
        generalize wr.drewN nq = wk at hrk htk ⊢
        clear q0 q1 nq HR
        have q1 := hrk.c1
        have q0 := hrk.c0
        have q2 := hrk.f2
        have hkz : (k : Int) ≤ t.size := by omega

        have e1 : decide ((i : Int) < k) = true := decide_eq_true (by omega)
        have e2 : decide (i < k) = true := decide_eq_true (by omega)
        have e3 : (i : Int) < k := by omega
        have e6 : (i : Int) ≤ k := by omega
        have e4 : i < k := by omega
        obtain ⟨m, hm⟩ : ∃ m, IntKind.i64.wrap (-n) = m := ⟨_, rfl⟩
        have HM : Hid (numS t i = m) := Lib.hid (by unfold numS; rw [if_pos HM0.out, HA.out, HK.out, HN.out, hm])
        have hmr := wrap64_rng (-n)
        have hm4 : wrap64 (-n) = m := by rw [wrap64_is, hm]
        rw [hm] at hmr
        clear hnr

        by_cases h20 : 20 < k - i
        · have HP : Hid (pNum t i = none) := Lib.hid (by
            cases hp : pNum t i with
            | none => rfl
            | some v => have := pNum_val HI0.out hp; rw [HK.out] at this; omega)
          have f3 : ((i : Int) == k) = false := by simp; omega
          have f3' : (i == k) = false := by simp; omega
          have f4 : decide ((20 : Int) < (k : Int) - i) = true := decide_eq_true (by omega)
          go_wp2_with fail
          go_big_quiet (fail)
          have hr5 := hrk.below (drewN_below wk nq)
          have ht5 := htk.trans (To.of (drewN_below wk nq))
          generalize wk.drewN nq = w5 at hr5 ht5 ⊢
          have z2 := hr5.f2
          have z3 := hr5.c2
          have hr6 := hr5.flag true
          have ht6 := ht5.trans (To.set r w5 2 (.bool true))
          go_wp2_with fail
          go_ret
          exact ⟨_, rfl, by rw [HK.out, HP.out]; simpa using hr6, ht6, fun v hv => by rw [HP.out] at hv; cases hv⟩

        · have f3 : ((i : Int) == k) = false := by simp; omega
          have f3' : (i == k) = false := by simp; omega
          have f4 : decide ((20 : Int) < (k : Int) - i) = false := decide_eq_false (by omega)
          by_cases hd : decS m = t.extract i k
          · have HP : Hid (pNum t i = some m) := Lib.hid (by rw [← HM.out]; exact pNum_back (by rw [HM.out, HK.out]; exact hd))
            have hd' : (!((decS m).toList == (t.extract i k).toList)) = false := by rw [hd]; simp
            clear hd
            go_wp2_with fail
            refine region_ext (by kernel_rfl) (by kernel_rfl) ?_
            have y0 := Ext.cell q0
            have y1 := Ext.cell q1
            repeat (first | go_big_quiet_skip | (go_big_quiet_want; go_big_quiet_op; first | go_big_quiet_on | (refine ⟨_, fun u => (dec_any m hmr.1 hmr.2 u.w).mono fun e w' h => ⟨h.1, ⟨w', u.below.trans (h.2.mono u.below.size)⟩, rfl⟩, ?_⟩; go_big_quiet_on)))
            refine wpQuiet_nil ?_
            intro w6 hb6
            clear y0 y1
            have hr6 := hrk.below hb6
            have ht6 := htk.trans (To.of hb6)

            go_wp2_with fail
            go_ret
            exact ⟨m, rfl, by rw [HK.out, HP.out]; simpa using hr6, ht6, fun v hv => by rw [HP.out] at hv; cases hv; rfl⟩
          · have HP : Hid (pNum t i = none) := Lib.hid (by
              cases hp : pNum t i with
              | none => rfl
              | some v => have := (pNum_val HI0.out hp).2.2.2; rw [HK.out, HM.out] at this; exact absurd this hd)
            have hd' : (!((decS m).toList == (t.extract i k).toList)) = true := str_ne hd
            clear hd
            go_wp2_with fail
            refine region_ext (by kernel_rfl) (by kernel_rfl) ?_
            have y0 := Ext.cell q0
            have y1 := Ext.cell q1
            repeat (first | go_big_quiet_skip | (go_big_quiet_want; go_big_quiet_op; first | go_big_quiet_on | (refine ⟨_, fun u => (dec_any m hmr.1 hmr.2 u.w).mono fun e w' h => ⟨h.1, ⟨w', u.below.trans (h.2.mono u.below.size)⟩, rfl⟩, ?_⟩; go_big_quiet_on)))
            refine wpQuiet_nil ?_
            intro w6 hb6
            clear y0 y1
            have hr6 := hrk.below hb6
            have ht6 := htk.trans (To.of hb6)

            have z2 := hr6.f2
            have z3 := hr6.c2
            have hr7 := hr6.flag true
            have ht7 := ht6.trans (To.set r w6 2 (.bool true))
            go_wp2_with fail
            go_ret
            exact ⟨_, rfl, by rw [HK.out, HP.out]; simpa using hr7, ht7, fun v hv => by rw [HP.out] at hv; cases hv⟩

  · have HA : Hid (numAt t i = i) := Lib.hid (by unfold numAt; rw [if_neg hm])
    have HM0 := Lib.hid hm
    by_cases hlt : i < t.size
    · have hm2 : ((t[i].toNat : Int) == 45) = false := by rw [← byI_eq hlt]; simpa using hm
      have g1 : decide ((i : Int) < t.size) = true := decide_eq_true (by omega)
      have g2 : (i : Int) < t.size := by omega
      clear hm
      go_enter Tryz.func152, Tryz.ntmps152
      go_wp2_with fail
      go_big_quiet (fail)
      have hrs := h.below (drewN_below w nq)
      have hts := To.of (r := r) (drewN_below w nq)
      generalize w.drewN nq = w2 at hrs hts ⊢
      clear c0 c1 f1 nq
      go_wp2_with fail
      go_loopw [4] (fun v wr => ∃ k : Nat, i ≤ k ∧ k ≤ t.size ∧ v = .int .i64 (nfold t (i) (k - (i))) ∧ Hid (numEnd t i = run digB t k) ∧ Sr wr r t k b ∧ To r w wr) (fun _ wr => lefS r t wr)
      case atStart => exact ⟨i, Nat.le_refl _, by omega, by simp [nfold], Lib.hid (by rw [HE0.out, HA.out]), hrs, hts⟩
      case round =>
        obtain ⟨k, hka, hkz, rfl, HR, hrk, htk⟩ := hrel
        obtain ⟨n, HN⟩ : ∃ n, Hid (nfold t (i) (k - (i)) = n) := ⟨_, Lib.hid rfl⟩
        have hnr := nfold_rng t (i) (k - (i))
        rw [HN.out] at hnr ⊢
        have q0 := hrk.c0
        have q1 := hrk.c1
        by_cases hlk : k < t.size
        · have g3 : decide ((k : Int) < t.size) = true := decide_eq_true (by omega)
          have g4 : (k : Int) < t.size := by omega
          obtain ⟨x, hx⟩ : ∃ x : Int, byI t k = x := ⟨_, rfl⟩
          have hx' : (t[k].toNat : Int) = x := by rw [← hx, byI_eq hlk]
          cases hdg : digB x with
          | true =>
            have HG := Lib.hid (run_go (q := digB) hlk (by rw [hx]; exact hdg))
            have hx3 : 48 ≤ x ∧ x ≤ 57 := by simpa [digB] using hdg
            obtain ⟨x4, x5⟩ := hx3
            have x6 : decide (x < 48) = false := decide_eq_false (by omega)
            go_wp2_with fail
            go_big_quiet ((go_at_call 116; exact Calls.quiet_of_same ((sdigit_is _ _ _ hdg).mono fun e w' h => ⟨h.1, h.2.symm⟩)))
            have hr5 := hrk.below (drewN_below wr nq)
            have ht5 := htk.trans (To.of (drewN_below wr nq))
            have hz5 : lefS r t wr = t.size - k := hrk.lef
            generalize wr.drewN nq = w5 at hr5 ht5 ⊢
            clear q0 q1 nq
            have q0 := hr5.c0
            have q1 := hr5.c1
            go_wp2_with fail
            go_big_quiet (fail)
            have hr6 := hr5.below (drewN_below w5 nq)
            have ht6 := ht5.trans (To.of (drewN_below w5 nq))
            generalize w5.drewN nq = w6 at hr6 ht6 ⊢
            clear q0 q1 nq
            have q0 := hr6.c0
            have q1 := hr6.c1
            have q2 := hr6.f1
            have hr7 := hr6.set (k + 1) (by omega)
            have ht7 := ht6.trans (To.set r w6 1 (.int .i64 ((k + 1 : Nat))))
            push_cast at hr7 ht7
            go_wp2_with fail
            go_roundw
            case rel =>
              refine ⟨k + 1, by omega, by omega, ?_, Lib.hid (HR.out.trans HG.out), hr7, ht7⟩
              rw [show k + 1 - (i) = (k - (i)) + 1 by omega]
              unfold nfold
              rw [HN.out, show (i) + (k - (i)) = k by omega, hx]
              rw [wrap64_is, wrap64_is]
            case measure =>
              rw [hr7.lef, hz5]
              omega
          | false =>
            have HK : Hid (numEnd t i = k) := Lib.hid (HR.out.trans (run_stop (fun h => by rw [hx, hdg] at h; exact absurd h.2 (by decide))))
            go_wp2_with fail
            go_big_quiet ((go_at_call 116; exact Calls.quiet_of_same ((sdigit_is _ _ _ hdg).mono fun e w' h => ⟨h.1, h.2.symm⟩)))
            replace hrk := hrk.below (drewN_below wr nq)
            replace htk := htk.trans (To.of (drewN_below wr nq))
            generalize wr.drewN nq = wk at hrk htk ⊢
            clear q0 q1 nq hx' hx hdg HR
            have q1 := hrk.c1
            have q0 := hrk.c0
            have q2 := hrk.f2
            have hkz : (k : Int) ≤ t.size := by omega

            have HM : Hid (numS t i = n) := Lib.hid (by unfold numS; rw [if_neg HM0.out, HA.out, HK.out, HN.out])
            have hmr := hnr
            obtain ⟨m, hm⟩ : ∃ m, n = m := ⟨_, rfl⟩
            rw [hm] at hmr HM ⊢
            by_cases hlt0 : i < k
            · have e1 : decide ((i : Int) < k) = true := decide_eq_true (by omega)
              have e2 : decide (i < k) = true := decide_eq_true (by omega)
              have e3 : (i : Int) < k := by omega
              have e6 : (i : Int) ≤ k := by omega
              have hi2 : i < t.size := by omega
              have e5 : ((t[i].toNat : Int) == 45) = false := by rw [← byI_eq hi2]; simpa using HM0.out
              by_cases h20 : 20 < k - i
              · have HP : Hid (pNum t i = none) := Lib.hid (by
                  cases hp : pNum t i with
                  | none => rfl
                  | some v => have := pNum_val HI0.out hp; rw [HK.out] at this; omega)
                have f3 : ((i : Int) == k) = false := by simp; omega
                have f3' : (i == k) = false := by simp; omega
                have f4 : decide ((20 : Int) < (k : Int) - i) = true := decide_eq_true (by omega)
                go_wp2_with fail
                go_big_quiet (fail)
                have hr5 := hrk.below (drewN_below wk nq)
                have ht5 := htk.trans (To.of (drewN_below wk nq))
                generalize wk.drewN nq = w5 at hr5 ht5 ⊢
                have z2 := hr5.f2
                have z3 := hr5.c2
                have hr6 := hr5.flag true
                have ht6 := ht5.trans (To.set r w5 2 (.bool true))
                go_wp2_with fail
                go_ret
                exact ⟨_, rfl, by rw [HK.out, HP.out]; simpa using hr6, ht6, fun v hv => by rw [HP.out] at hv; cases hv⟩

              · have f3 : ((i : Int) == k) = false := by simp; omega
                have f3' : (i == k) = false := by simp; omega
                have f4 : decide ((20 : Int) < (k : Int) - i) = false := decide_eq_false (by omega)
                by_cases hd : decS m = t.extract i k
                · have HP : Hid (pNum t i = some m) := Lib.hid (by rw [← HM.out]; exact pNum_back (by rw [HM.out, HK.out]; exact hd))
                  have hd' : (!((decS m).toList == (t.extract i k).toList)) = false := by rw [hd]; simp
                  clear hd
                  go_wp2_with fail
                  refine region_ext (by kernel_rfl) (by kernel_rfl) ?_
                  have y0 := Ext.cell q0
                  have y1 := Ext.cell q1
                  repeat (first | go_big_quiet_skip | (go_big_quiet_want; go_big_quiet_op; first | go_big_quiet_on | (refine ⟨_, fun u => (dec_any m hmr.1 hmr.2 u.w).mono fun e w' h => ⟨h.1, ⟨w', u.below.trans (h.2.mono u.below.size)⟩, rfl⟩, ?_⟩; go_big_quiet_on)))
                  refine wpQuiet_nil ?_
                  intro w6 hb6
                  clear y0 y1
                  have hr6 := hrk.below hb6
                  have ht6 := htk.trans (To.of hb6)

                  go_wp2_with fail
                  go_ret
                  exact ⟨m, rfl, by rw [HK.out, HP.out]; simpa using hr6, ht6, fun v hv => by rw [HP.out] at hv; cases hv; rfl⟩
                · have HP : Hid (pNum t i = none) := Lib.hid (by
                    cases hp : pNum t i with
                    | none => rfl
                    | some v => have := (pNum_val HI0.out hp).2.2.2; rw [HK.out, HM.out] at this; exact absurd this hd)
                  have hd' : (!((decS m).toList == (t.extract i k).toList)) = true := str_ne hd
                  clear hd
                  go_wp2_with fail
                  refine region_ext (by kernel_rfl) (by kernel_rfl) ?_
                  have y0 := Ext.cell q0
                  have y1 := Ext.cell q1
                  repeat (first | go_big_quiet_skip | (go_big_quiet_want; go_big_quiet_op; first | go_big_quiet_on | (refine ⟨_, fun u => (dec_any m hmr.1 hmr.2 u.w).mono fun e w' h => ⟨h.1, ⟨w', u.below.trans (h.2.mono u.below.size)⟩, rfl⟩, ?_⟩; go_big_quiet_on)))
                  refine wpQuiet_nil ?_
                  intro w6 hb6
                  clear y0 y1
                  have hr6 := hrk.below hb6
                  have ht6 := htk.trans (To.of hb6)

                  have z2 := hr6.f2
                  have z3 := hr6.c2
                  have hr7 := hr6.flag true
                  have ht7 := ht6.trans (To.set r w6 2 (.bool true))
                  go_wp2_with fail
                  go_ret
                  exact ⟨_, rfl, by rw [HK.out, HP.out]; simpa using hr7, ht7, fun v hv => by rw [HP.out] at hv; cases hv⟩

            · have hki : k = i := by omega
              subst hki
              have e1 : decide ((k : Int) < k) = false := decide_eq_false (by omega)
              have e2 : decide (k < k) = false := decide_eq_false (by omega)
              have HP : Hid (pNum t k = none) := Lib.hid (by
                cases hp : pNum t k with
                | none => rfl
                | some v => have := pNum_val hrk.le hp; rw [HK.out] at this; omega)
              go_wp2_with fail
              go_big_quiet (fail)
              have hr5 := hrk.below (drewN_below wk nq)
              have ht5 := htk.trans (To.of (drewN_below wk nq))
              generalize wk.drewN nq = w5 at hr5 ht5 ⊢
              have z2 := hr5.f2
              have z3 := hr5.c2
              have hr6 := hr5.flag true
              have ht6 := ht5.trans (To.set r w5 2 (.bool true))
              go_wp2_with fail
              go_ret
              exact ⟨_, rfl, by rw [HK.out, HP.out]; simpa using hr6, ht6, fun v hv => by rw [HP.out] at hv; cases hv⟩

        · have g3 : decide ((k : Int) < t.size) = false := decide_eq_false (by omega)
          have HK : Hid (numEnd t i = k) := Lib.hid (HR.out.trans (run_stop (fun h => hlk h.1)))
          go_wp2_with fail
          go_big_quiet (fail)
          replace hrk := hrk.below (drewN_below wr nq)
          replace htk := htk.trans (To.of (drewN_below wr nq))
          generalize wr.drewN nq = wk at hrk htk ⊢
          clear q0 q1 nq HR
          have q1 := hrk.c1
          have q0 := hrk.c0
          have q2 := hrk.f2
          have hkz : (k : Int) ≤ t.size := by omega

          have HM : Hid (numS t i = n) := Lib.hid (by unfold numS; rw [if_neg HM0.out, HA.out, HK.out, HN.out])
          have hmr := hnr
          obtain ⟨m, hm⟩ : ∃ m, n = m := ⟨_, rfl⟩
          rw [hm] at hmr HM ⊢
          by_cases hlt0 : i < k
          · have e1 : decide ((i : Int) < k) = true := decide_eq_true (by omega)
            have e2 : decide (i < k) = true := decide_eq_true (by omega)
            have e3 : (i : Int) < k := by omega
            have e6 : (i : Int) ≤ k := by omega
            have hi2 : i < t.size := by omega
            have e5 : ((t[i].toNat : Int) == 45) = false := by rw [← byI_eq hi2]; simpa using HM0.out
            by_cases h20 : 20 < k - i
            · have HP : Hid (pNum t i = none) := Lib.hid (by
                cases hp : pNum t i with
                | none => rfl
                | some v => have := pNum_val HI0.out hp; rw [HK.out] at this; omega)
              have f3 : ((i : Int) == k) = false := by simp; omega
              have f3' : (i == k) = false := by simp; omega
              have f4 : decide ((20 : Int) < (k : Int) - i) = true := decide_eq_true (by omega)
              go_wp2_with fail
              go_big_quiet (fail)
              have hr5 := hrk.below (drewN_below wk nq)
              have ht5 := htk.trans (To.of (drewN_below wk nq))
              generalize wk.drewN nq = w5 at hr5 ht5 ⊢
              have z2 := hr5.f2
              have z3 := hr5.c2
              have hr6 := hr5.flag true
              have ht6 := ht5.trans (To.set r w5 2 (.bool true))
              go_wp2_with fail
              go_ret
              exact ⟨_, rfl, by rw [HK.out, HP.out]; simpa using hr6, ht6, fun v hv => by rw [HP.out] at hv; cases hv⟩

            · have f3 : ((i : Int) == k) = false := by simp; omega
              have f3' : (i == k) = false := by simp; omega
              have f4 : decide ((20 : Int) < (k : Int) - i) = false := decide_eq_false (by omega)
              by_cases hd : decS m = t.extract i k
              · have HP : Hid (pNum t i = some m) := Lib.hid (by rw [← HM.out]; exact pNum_back (by rw [HM.out, HK.out]; exact hd))
                have hd' : (!((decS m).toList == (t.extract i k).toList)) = false := by rw [hd]; simp
                clear hd
                go_wp2_with fail
                refine region_ext (by kernel_rfl) (by kernel_rfl) ?_
                have y0 := Ext.cell q0
                have y1 := Ext.cell q1
                repeat (first | go_big_quiet_skip | (go_big_quiet_want; go_big_quiet_op; first | go_big_quiet_on | (refine ⟨_, fun u => (dec_any m hmr.1 hmr.2 u.w).mono fun e w' h => ⟨h.1, ⟨w', u.below.trans (h.2.mono u.below.size)⟩, rfl⟩, ?_⟩; go_big_quiet_on)))
                refine wpQuiet_nil ?_
                intro w6 hb6
                clear y0 y1
                have hr6 := hrk.below hb6
                have ht6 := htk.trans (To.of hb6)

                go_wp2_with fail
                go_ret
                exact ⟨m, rfl, by rw [HK.out, HP.out]; simpa using hr6, ht6, fun v hv => by rw [HP.out] at hv; cases hv; rfl⟩
              · have HP : Hid (pNum t i = none) := Lib.hid (by
                  cases hp : pNum t i with
                  | none => rfl
                  | some v => have := (pNum_val HI0.out hp).2.2.2; rw [HK.out, HM.out] at this; exact absurd this hd)
                have hd' : (!((decS m).toList == (t.extract i k).toList)) = true := str_ne hd
                clear hd
                go_wp2_with fail
                refine region_ext (by kernel_rfl) (by kernel_rfl) ?_
                have y0 := Ext.cell q0
                have y1 := Ext.cell q1
                repeat (first | go_big_quiet_skip | (go_big_quiet_want; go_big_quiet_op; first | go_big_quiet_on | (refine ⟨_, fun u => (dec_any m hmr.1 hmr.2 u.w).mono fun e w' h => ⟨h.1, ⟨w', u.below.trans (h.2.mono u.below.size)⟩, rfl⟩, ?_⟩; go_big_quiet_on)))
                refine wpQuiet_nil ?_
                intro w6 hb6
                clear y0 y1
                have hr6 := hrk.below hb6
                have ht6 := htk.trans (To.of hb6)

                have z2 := hr6.f2
                have z3 := hr6.c2
                have hr7 := hr6.flag true
                have ht7 := ht6.trans (To.set r w6 2 (.bool true))
                go_wp2_with fail
                go_ret
                exact ⟨_, rfl, by rw [HK.out, HP.out]; simpa using hr7, ht7, fun v hv => by rw [HP.out] at hv; cases hv⟩

          · omega

    · have g1 : decide ((i : Int) < t.size) = false := decide_eq_false (by omega)
      clear hm
      go_enter Tryz.func152, Tryz.ntmps152
      go_wp2_with fail
      go_big_quiet (fail)
      have hrs := h.below (drewN_below w nq)
      have hts := To.of (r := r) (drewN_below w nq)
      generalize w.drewN nq = w2 at hrs hts ⊢
      clear c0 c1 f1 nq
      go_wp2_with fail
      go_loopw [4] (fun v wr => ∃ k : Nat, i ≤ k ∧ k ≤ t.size ∧ v = .int .i64 (nfold t (i) (k - (i))) ∧ Hid (numEnd t i = run digB t k) ∧ Sr wr r t k b ∧ To r w wr) (fun _ wr => lefS r t wr)
      case atStart => exact ⟨i, Nat.le_refl _, by omega, by simp [nfold], Lib.hid (by rw [HE0.out, HA.out]), hrs, hts⟩
      case round =>
        obtain ⟨k, hka, hkz, rfl, HR, hrk, htk⟩ := hrel
        obtain ⟨n, HN⟩ : ∃ n, Hid (nfold t (i) (k - (i)) = n) := ⟨_, Lib.hid rfl⟩
        have hnr := nfold_rng t (i) (k - (i))
        rw [HN.out] at hnr ⊢
        have q0 := hrk.c0
        have q1 := hrk.c1
        by_cases hlk : k < t.size
        · omega
        · have g3 : decide ((k : Int) < t.size) = false := decide_eq_false (by omega)
          have HK : Hid (numEnd t i = k) := Lib.hid (HR.out.trans (run_stop (fun h => hlk h.1)))
          go_wp2_with fail
          go_big_quiet (fail)
          replace hrk := hrk.below (drewN_below wr nq)
          replace htk := htk.trans (To.of (drewN_below wr nq))
          generalize wr.drewN nq = wk at hrk htk ⊢
          clear q0 q1 nq HR
          have q1 := hrk.c1
          have q0 := hrk.c0
          have q2 := hrk.f2
          have hkz : (k : Int) ≤ t.size := by omega

          have HM : Hid (numS t i = n) := Lib.hid (by unfold numS; rw [if_neg HM0.out, HA.out, HK.out, HN.out])
          have hmr := hnr
          obtain ⟨m, hm⟩ : ∃ m, n = m := ⟨_, rfl⟩
          rw [hm] at hmr HM ⊢
          by_cases hlt0 : i < k
          · omega
          · have hki : k = i := by omega
            subst hki
            have e1 : decide ((k : Int) < k) = false := decide_eq_false (by omega)
            have e2 : decide (k < k) = false := decide_eq_false (by omega)
            have HP : Hid (pNum t k = none) := Lib.hid (by
              cases hp : pNum t k with
              | none => rfl
              | some v => have := pNum_val hrk.le hp; rw [HK.out] at this; omega)
            go_wp2_with fail
            go_big_quiet (fail)
            have hr5 := hrk.below (drewN_below wk nq)
            have ht5 := htk.trans (To.of (drewN_below wk nq))
            generalize wk.drewN nq = w5 at hr5 ht5 ⊢
            have z2 := hr5.f2
            have z3 := hr5.c2
            have hr6 := hr5.flag true
            have ht6 := ht5.trans (To.set r w5 2 (.bool true))
            go_wp2_with fail
            go_ret
            exact ⟨_, rfl, by rw [HK.out, HP.out]; simpa using hr6, ht6, fun v hv => by rw [HP.out] at hv; cases hv⟩
end Go.Proofs.YtllhimeffkefiaaGreatDoor
