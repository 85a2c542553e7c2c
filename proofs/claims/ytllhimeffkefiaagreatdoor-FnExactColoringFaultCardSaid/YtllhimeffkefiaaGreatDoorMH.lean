/- Texts of one proof, joined in their order: each bears its own word of what it holds and on what condition. -/
import Derived.Test.YtllhimeffkefiaaGreatDoorMSg
import Derived.Test.YtllhimeffkefiaaGreatDoorMVl
set_option linter.unusedVariables false
set_option linter.unusedSimpArgs false
/- The specification's reading of dates. Condition: texts of at most 2^20 bytes. -/
set_option linter.unusedVariables false
set_option linter.unusedSimpArgs false
namespace Go.Proofs.YtllhimeffkefiaaGreatDoor
open Go.RowKit Go.Sort

theorem pDate_d1 {t : ByteArray} {i0 : Nat} (h : digOk t (i0 + 1) 4 = false) : pDate t i0 = none := by
  unfold pDate
  rw [if_neg]
  rintro ⟨_, h1, _⟩
  unfold numv at h1
  rw [if_neg (by rw [h]; decide)] at h1
  omega
theorem pDate_m2 {t : ByteArray} {i0 : Nat} (h : ¬ byI t (i0 + 5) = 45) : pDate t i0 = none := by
  unfold pDate
  rw [if_neg]
  rintro ⟨⟨_, h1, _⟩, _⟩
  exact h h1
theorem pDate_d3 {t : ByteArray} {i0 : Nat} (h : digOk t (i0 + 6) 2 = false) : pDate t i0 = none := by
  unfold pDate
  rw [if_neg]
  rintro ⟨_, _, h1, _⟩
  unfold numv at h1
  rw [if_neg (by rw [h]; decide)] at h1
  omega
theorem pDate_m4 {t : ByteArray} {i0 : Nat} (h : ¬ byI t (i0 + 8) = 45) : pDate t i0 = none := by
  unfold pDate
  rw [if_neg]
  rintro ⟨⟨_, _, h1⟩, _⟩
  exact h h1
theorem pDate_d5 {t : ByteArray} {i0 : Nat} (h : digOk t (i0 + 9) 2 = false) : pDate t i0 = none := by
  unfold pDate
  rw [if_neg]
  rintro ⟨_, _, _, _, h1, _⟩
  unfold numv at h1
  rw [if_neg (by rw [h]; decide)] at h1
  omega
theorem pDate_all {t : ByteArray} {i0 : Nat} (h1 : digOk t (i0 + 1) 4 = true) (h2 : byI t (i0 + 5) = 45) (h3 : digOk t (i0 + 6) 2 = true) (h4 : byI t (i0 + 8) = 45) (h5 : digOk t (i0 + 9) 2 = true) :
    pDate t i0 = if 1 ≤ numv t (i0 + 1) 4 ∧ 1 ≤ numv t (i0 + 6) 2 ∧ numv t (i0 + 6) 2 ≤ 12 ∧ 1 ≤ numv t (i0 + 9) 2 ∧ numv t (i0 + 9) 2 ≤ mlen (numv t (i0 + 1) 4) (numv t (i0 + 6) 2) then
      some (dayNo (numv t (i0 + 1) 4) (numv t (i0 + 6) 2) (numv t (i0 + 9) 2), i0 + 11) else none := by
  have hz : i0 + 11 ≤ t.size := by
    simp only [digOk, Bool.and_eq_true] at h5
    have := byI_lt (t := t) (i := i0 + 9 + 1) (fun e => by rw [e] at h5; exact absurd h5.2 (by decide))
    omega
  unfold pDate
  congr 1
  exact propext ⟨fun h => h.2, fun h => ⟨⟨hz, h2, h4⟩, h⟩⟩
theorem digits4_any (w : World) (r : Nat) (t : ByteArray) (i : Nat) (c : Bool) (h : Sr w r t i c) : Calls Tryz.prog 168 #[.pointer (some ⟨r, 0, none⟩), .int .i64 4] w (DigS r t i 4 c w) := digits_any w r t i 4 (by decide) c h
theorem digits2_any (w : World) (r : Nat) (t : ByteArray) (i : Nat) (c : Bool) (h : Sr w r t i c) : Calls Tryz.prog 168 #[.pointer (some ⟨r, 0, none⟩), .int .i64 2] w (DigS r t i 2 c w) := digits_any w r t i 2 (by decide) c h
set_option maxHeartbeats 4000000 in
set_option maxRecDepth 100000 in
theorem sdate_any (w : World) (r : Nat) (t : ByteArray) (i0 : Nat) (h : Sr w r t (i0 + 1) false) : Calls Tryz.prog 151 #[.pointer (some ⟨r, 0, none⟩)] w (ValS r t ((pDate t i0).map fun q => (flat 4 q.1 0 e0, q.2)) w) := by
  have hlt := h.lt
  have hne : w.heap.size ≠ r := by omega
  have ha := (To.alloc r w (.cells #[.int .i64 0, .int .i64 0, .int .i64 0, .string ⟨#[]⟩, .slice none 0 0, .slice none 0 0] 179))
  have hr := h.alloc (.cells #[.int .i64 0, .int .i64 0, .int .i64 0, .string ⟨#[]⟩, .slice none 0 0, .slice none 0 0] 179)
  have hb := To.refl r (w.alloc (.cells #[.int .i64 0, .int .i64 0, .int .i64 0, .string ⟨#[]⟩, .slice none 0 0, .slice none 0 0] 179))
  clear h
  go_enter Tryz.func151, Tryz.ntmps151
  go_upto_region 2 with (go_at_call 168; refine (digits4_any _ r t _ false hr).mono ?_; rintro e w1 ⟨v2, j2, rfl, hr1, ht1, u2, u2', hg⟩)
  replace hb := hb.trans ht1
  cases hd1 : digOk t (i0 + 1) 4 with
  | false =>
    have HP : Hid ((pDate t i0).map (fun q => (flat 4 q.1 0 e0, q.2)) = none) := Lib.hid (by rw [pDate_d1 hd1]; rfl)
    replace hr := hr1
    rw [hd1] at hr
    simp only [Bool.false_or, Bool.not_false] at hr
    clear hr1 ht1 hg
    have q2 := hr.c2
    have q3 := hr.f2
    go_upto_region 3 with fail
    replace hr := hr.flag true
    replace hb := hb.trans (To.set r _ 2 (.bool true))
    clear q2 q3
    go_upto_region 4 with (go_at_call 168; refine (digits2_any _ r t _ true hr).mono ?_; rintro e w1 ⟨v4, j4, rfl, hr1, ht1, u4, u4', hg⟩)
    replace hb := hb.trans ht1
    replace hr := hr1
    rw [Bool.true_or] at hr
    clear hr1 ht1 hg
    have q2 := hr.c2
    have q3 := hr.f2
    go_upto_region 5 with fail
    replace hr := hr.flag true
    replace hb := hb.trans (To.set r _ 2 (.bool true))
    clear q2 q3
    go_upto_region 6 with (go_at_call 168; refine (digits2_any _ r t _ true hr).mono ?_; rintro e w1 ⟨v6, j6, rfl, hr1, ht1, u6, u6', hg⟩)
    replace hb := hb.trans ht1
    replace hr := hr1
    rw [Bool.true_or] at hr
    clear hr1 ht1 hg
    have q2 := hr.c2
    go_upto_region 7 with fail
    go_wp2_with (go_at_call 148; refine (fail_any _ r t _ _ hr).mono ?_; rintro e wf ⟨he, hrf, htf⟩; unfold bad6 at he; subst he; obtain ⟨b0, b1, b2, b3, b4, b5, bf, bz⟩ := boxOf (hb.trans htf) hne)
    exact bodyPost_ret (v := bad6) (by simp [results, Tryz.results151, go_sem, b0, b1, b2, b3, b4, b5, bad6]) rfl
      (valS_flat hlt hrf ((ha.trans hb).trans htf) (by rw [HP.out]; rfl) (fun y k' hy => by rw [HP.out] at hy; cases hy) [.int .i64 (-1), .int .i64 0, .int .i64 0, .string ⟨#[]⟩, .slice none 0 0, .slice none 0 0])
  | true =>
    obtain ⟨rfl, rfl⟩ := hg hd1
    replace hr := hr1
    rw [hd1] at hr
    simp only [Bool.false_or, Bool.not_true] at hr
    clear hr1 ht1
    rw [show i0 + 1 + 4 = i0 + 5 by omega] at hr
    have q2 := hr.c2
    by_cases hm2 : byI t (i0 + 5) = 45
    · go_upto_region 3 with (go_at_call 149; refine (take1_yes _ r t _ 45 hr (by decide) hm2).mono ?_; rintro e w1 ⟨rfl, hr1, ht1⟩; have q4 := hr1.c2; have q5 := hr1.f2)
      replace hb := (hb.trans ht1).trans (To.set r _ 2 (.bool false))
      replace hr := hr1.flag false
      rw [show i0 + 5 + 1 = i0 + 6 by omega] at hr
      clear hr1 ht1 q2 q4 q5
      go_upto_region 4 with (go_at_call 168; refine (digits2_any _ r t _ false hr).mono ?_; rintro e w1 ⟨v4, j4, rfl, hr1, ht1, u4, u4', hg⟩)
      replace hb := hb.trans ht1
      cases hd3 : digOk t (i0 + 6) 2 with
      | false =>
        have HP : Hid ((pDate t i0).map (fun q => (flat 4 q.1 0 e0, q.2)) = none) := Lib.hid (by rw [pDate_d3 hd3]; rfl)
        replace hr := hr1
        rw [hd3] at hr
        simp only [Bool.false_or, Bool.not_false] at hr
        clear hr1 ht1 hg
        have q2 := hr.c2
        have q3 := hr.f2
        go_upto_region 5 with fail
        replace hr := hr.flag true
        replace hb := hb.trans (To.set r _ 2 (.bool true))
        clear q2 q3
        go_upto_region 6 with (go_at_call 168; refine (digits2_any _ r t _ true hr).mono ?_; rintro e w1 ⟨v6, j6, rfl, hr1, ht1, u6, u6', hg⟩)
        replace hb := hb.trans ht1
        replace hr := hr1
        rw [Bool.true_or] at hr
        clear hr1 ht1 hg
        have q2 := hr.c2
        go_upto_region 7 with fail
        go_wp2_with (go_at_call 148; refine (fail_any _ r t _ _ hr).mono ?_; rintro e wf ⟨he, hrf, htf⟩; unfold bad6 at he; subst he; obtain ⟨b0, b1, b2, b3, b4, b5, bf, bz⟩ := boxOf (hb.trans htf) hne)
        exact bodyPost_ret (v := bad6) (by simp [results, Tryz.results151, go_sem, b0, b1, b2, b3, b4, b5, bad6]) rfl
          (valS_flat hlt hrf ((ha.trans hb).trans htf) (by rw [HP.out]; rfl) (fun y k' hy => by rw [HP.out] at hy; cases hy) [.int .i64 (-1), .int .i64 0, .int .i64 0, .string ⟨#[]⟩, .slice none 0 0, .slice none 0 0])
      | true =>
        obtain ⟨rfl, rfl⟩ := hg hd3
        replace hr := hr1
        rw [hd3] at hr
        simp only [Bool.false_or, Bool.not_true] at hr
        clear hr1 ht1
        rw [show i0 + 6 + 2 = i0 + 8 by omega] at hr
        have q2 := hr.c2
        by_cases hm4 : byI t (i0 + 8) = 45
        · go_upto_region 5 with (go_at_call 149; refine (take1_yes _ r t _ 45 hr (by decide) hm4).mono ?_; rintro e w1 ⟨rfl, hr1, ht1⟩; have q4 := hr1.c2; have q5 := hr1.f2)
          replace hb := (hb.trans ht1).trans (To.set r _ 2 (.bool false))
          replace hr := hr1.flag false
          rw [show i0 + 8 + 1 = i0 + 9 by omega] at hr
          clear hr1 ht1 q2 q4 q5
          go_upto_region 6 with (go_at_call 168; refine (digits2_any _ r t _ false hr).mono ?_; rintro e w1 ⟨v6, j6, rfl, hr1, ht1, u6, u6', hg⟩)
          replace hb := hb.trans ht1
          cases hd5 : digOk t (i0 + 9) 2 with
          | false =>
            have HP : Hid ((pDate t i0).map (fun q => (flat 4 q.1 0 e0, q.2)) = none) := Lib.hid (by rw [pDate_d5 hd5]; rfl)
            replace hr := hr1
            rw [hd5] at hr
            simp only [Bool.false_or, Bool.not_false] at hr
            clear hr1 ht1 hg
            have q2 := hr.c2
            go_upto_region 7 with fail
            go_wp2_with (go_at_call 148; refine (fail_any _ r t _ _ hr).mono ?_; rintro e wf ⟨he, hrf, htf⟩; unfold bad6 at he; subst he; obtain ⟨b0, b1, b2, b3, b4, b5, bf, bz⟩ := boxOf (hb.trans htf) hne)
            exact bodyPost_ret (v := bad6) (by simp [results, Tryz.results151, go_sem, b0, b1, b2, b3, b4, b5, bad6]) rfl
              (valS_flat hlt hrf ((ha.trans hb).trans htf) (by rw [HP.out]; rfl) (fun y k' hy => by rw [HP.out] at hy; cases hy) [.int .i64 (-1), .int .i64 0, .int .i64 0, .string ⟨#[]⟩, .slice none 0 0, .slice none 0 0])
          | true =>
            obtain ⟨rfl, rfl⟩ := hg hd5
            replace hr := hr1
            rw [hd5] at hr
            simp only [Bool.false_or, Bool.not_true] at hr
            clear hr1 ht1
            have q2 := hr.c2
            rw [show i0 + 9 + 2 = i0 + 11 by omega] at hr
            have e1 : numv t (i0 + 1) 4 = digN t (i0 + 1) 4 := by unfold numv; rw [if_pos hd1]
            have e3 : numv t (i0 + 6) 2 = digN t (i0 + 6) 2 := by unfold numv; rw [if_pos hd3]
            have e5 : numv t (i0 + 9) 2 = digN t (i0 + 9) 2 := by unfold numv; rw [if_pos hd5]
            have hD := pDate_all hd1 hm2 hd3 hm4 hd5
            rw [e1, e3, e5] at hD
            have n1 := digN_bd t (i0 + 1) 4 hd1
            have n3 := digN_bd t (i0 + 6) 2 hd3
            have n5 := digN_bd t (i0 + 9) 2 hd5
            generalize digN t (i0 + 1) 4 = y at *
            generalize digN t (i0 + 6) 2 = m at *
            generalize digN t (i0 + 9) 2 = d at *
            have ny : y < 10000 := by have : (10:Int) ^ 4 = 10000 := by decide
                                      omega
            have nm : m < 100 := by have : (10:Int) ^ 2 = 100 := by decide
                                    omega
            have nd : d < 100 := by have : (10:Int) ^ 2 = 100 := by decide
                                    omega
            by_cases c1 : y < 1
            · have HP : Hid ((pDate t i0).map (fun q => (flat 4 q.1 0 e0, q.2)) = none) := Lib.hid (by rw [hD, if_neg (by omega)]; rfl)
              have g1 : decide (y < 1) = true := decide_eq_true c1
              go_upto_region 7 with fail
              go_wp2_with (go_at_call 148; refine (fail_any _ r t _ _ hr).mono ?_; rintro e wf ⟨he, hrf, htf⟩; unfold bad6 at he; subst he; obtain ⟨b0, b1, b2, b3, b4, b5, bf, bz⟩ := boxOf (hb.trans htf) hne)
              exact bodyPost_ret (v := bad6) (by simp [results, Tryz.results151, go_sem, b0, b1, b2, b3, b4, b5, bad6]) rfl
                (valS_flat hlt hrf ((ha.trans hb).trans htf) (by rw [HP.out]; rfl) (fun y k' hy => by rw [HP.out] at hy; cases hy) [.int .i64 (-1), .int .i64 0, .int .i64 0, .string ⟨#[]⟩, .slice none 0 0, .slice none 0 0])
            have g1 : decide (y < 1) = false := decide_eq_false c1
            by_cases c2 : m < 1
            · have HP : Hid ((pDate t i0).map (fun q => (flat 4 q.1 0 e0, q.2)) = none) := Lib.hid (by rw [hD, if_neg (by omega)]; rfl)
              have g2 : decide (m < 1) = true := decide_eq_true c2
              go_upto_region 7 with fail
              go_wp2_with (go_at_call 148; refine (fail_any _ r t _ _ hr).mono ?_; rintro e wf ⟨he, hrf, htf⟩; unfold bad6 at he; subst he; obtain ⟨b0, b1, b2, b3, b4, b5, bf, bz⟩ := boxOf (hb.trans htf) hne)
              exact bodyPost_ret (v := bad6) (by simp [results, Tryz.results151, go_sem, b0, b1, b2, b3, b4, b5, bad6]) rfl
                (valS_flat hlt hrf ((ha.trans hb).trans htf) (by rw [HP.out]; rfl) (fun y k' hy => by rw [HP.out] at hy; cases hy) [.int .i64 (-1), .int .i64 0, .int .i64 0, .string ⟨#[]⟩, .slice none 0 0, .slice none 0 0])
            have g2 : decide (m < 1) = false := decide_eq_false c2
            by_cases c3 : 12 < m
            · have HP : Hid ((pDate t i0).map (fun q => (flat 4 q.1 0 e0, q.2)) = none) := Lib.hid (by rw [hD, if_neg (by omega)]; rfl)
              have g3 : decide (12 < m) = true := decide_eq_true c3
              go_upto_region 7 with fail
              go_wp2_with (go_at_call 148; refine (fail_any _ r t _ _ hr).mono ?_; rintro e wf ⟨he, hrf, htf⟩; unfold bad6 at he; subst he; obtain ⟨b0, b1, b2, b3, b4, b5, bf, bz⟩ := boxOf (hb.trans htf) hne)
              exact bodyPost_ret (v := bad6) (by simp [results, Tryz.results151, go_sem, b0, b1, b2, b3, b4, b5, bad6]) rfl
                (valS_flat hlt hrf ((ha.trans hb).trans htf) (by rw [HP.out]; rfl) (fun y k' hy => by rw [HP.out] at hy; cases hy) [.int .i64 (-1), .int .i64 0, .int .i64 0, .string ⟨#[]⟩, .slice none 0 0, .slice none 0 0])
            have g3 : decide (12 < m) = false := decide_eq_false c3
            by_cases c4 : d < 1
            · have HP : Hid ((pDate t i0).map (fun q => (flat 4 q.1 0 e0, q.2)) = none) := Lib.hid (by rw [hD, if_neg (by omega)]; rfl)
              have g4 : decide (d < 1) = true := decide_eq_true c4
              go_upto_region 7 with fail
              go_wp2_with (go_at_call 148; refine (fail_any _ r t _ _ hr).mono ?_; rintro e wf ⟨he, hrf, htf⟩; unfold bad6 at he; subst he; obtain ⟨b0, b1, b2, b3, b4, b5, bf, bz⟩ := boxOf (hb.trans htf) hne)
              exact bodyPost_ret (v := bad6) (by simp [results, Tryz.results151, go_sem, b0, b1, b2, b3, b4, b5, bad6]) rfl
                (valS_flat hlt hrf ((ha.trans hb).trans htf) (by rw [HP.out]; rfl) (fun y k' hy => by rw [HP.out] at hy; cases hy) [.int .i64 (-1), .int .i64 0, .int .i64 0, .string ⟨#[]⟩, .slice none 0 0, .slice none 0 0])
            have g4 : decide (d < 1) = false := decide_eq_false c4
            have hlm := fun wm => l01Month_any y m wm (by omega) (by omega) (by omega) (by omega)
            obtain ⟨L, hL⟩ : ∃ L, mlen y m = L := ⟨_, rfl⟩
            have hLb := mlen_bd y m
            rw [hL] at hlm hD hLb
            by_cases c5 : L < d
            · have HP : Hid ((pDate t i0).map (fun q => (flat 4 q.1 0 e0, q.2)) = none) := Lib.hid (by rw [hD, if_neg (by omega)]; rfl)
              have g5 : decide (L < d) = true := decide_eq_true c5
              go_upto_region 7 with (go_at_call 169; refine (hlm _).mono ?_; rintro e wm ⟨rfl, hbm⟩; replace hr := hr.below hbm; replace hb := hb.trans (To.of hbm))
              go_wp2_with (go_at_call 148; refine (fail_any _ r t _ _ hr).mono ?_; rintro e wf ⟨he, hrf, htf⟩; unfold bad6 at he; subst he; obtain ⟨b0, b1, b2, b3, b4, b5, bf, bz⟩ := boxOf (hb.trans htf) hne)
              exact bodyPost_ret (v := bad6) (by simp [results, Tryz.results151, go_sem, b0, b1, b2, b3, b4, b5, bad6]) rfl
                (valS_flat hlt hrf ((ha.trans hb).trans htf) (by rw [HP.out]; rfl) (fun y k' hy => by rw [HP.out] at hy; cases hy) [.int .i64 (-1), .int .i64 0, .int .i64 0, .string ⟨#[]⟩, .slice none 0 0, .slice none 0 0])
            have g5 : decide (L < d) = false := decide_eq_false c5
            have HP : Hid ((pDate t i0).map (fun q => (flat 4 q.1 0 e0, q.2)) = some (flat 4 (dayNo y m d) 0 e0, i0 + 11)) := Lib.hid (by rw [hD, if_pos (by omega)]; rfl)
            have yb := yday_bd y (by omega) (by omega)
            go_upto_region 8 with (go_at_call 169; refine (hlm _).mono ?_; rintro e wm ⟨rfl, hbm⟩; replace hr := hr.below hbm; replace hb := hb.trans (To.of hbm))
            go_wp2_with (go_at_call 170; refine (l01Days_any y _ (by omega) (by omega)).mono ?_; rintro e wd ⟨rfl, hbd⟩; replace hr := hr.below hbd; replace hb := hb.trans (To.of hbd))
            clear q2
            go_loopw [6, 7] (fun n i wr => ∃ k : Nat, 1 ≤ k ∧ (k : Int) ≤ m ∧ i = .int .i64 k ∧ n = .int .i64 (yday y + d - 1 + mday y (k - 1)) ∧ Sr wr r t (i0 + 11) false ∧ To r (w.alloc (.cells #[.int .i64 0, .int .i64 0, .int .i64 0, .string ⟨#[]⟩, .slice none 0 0, .slice none 0 0] 179)) wr) (fun _ i _ => (m - intOf i).toNat)
            case atStart => exact ⟨1, by omega, by omega, rfl, by simp [mday], hr, hb⟩
            case round =>
              obtain ⟨k, hk, hkm, rfl, rfl, hr, hb⟩ := hrel
              have mb := mday_bd y (k - 1)
              have lb := mlen_bd y k
              have HS : Hid (mday y k = mday y (k - 1) + mlen y k) := Lib.hid (by
                obtain ⟨j, rfl⟩ : ∃ j, k = j + 1 := ⟨k - 1, by omega⟩
                rfl)
              by_cases hlt2 : (k : Int) < m
              · have f1 : decide ((k : Int) < m) = true := decide_eq_true hlt2
                go_wp2_with (go_at_call 169; refine (l01Month_any y k _ (by omega) (by omega) (by omega) (by omega)).mono ?_; rintro e wm ⟨rfl, hbm⟩)
                go_roundw
                case rel => exact ⟨k + 1, by omega, by omega, by go_num, by rw [Nat.add_sub_cancel, HS.out]; congr 1 <;> omega, hr.below hbm, hb.trans (To.of hbm)⟩
                case measure => simp [intOf]; omega
              · obtain rfl : m = k := by omega
                have f1 : decide ((k : Int) < k) = false := decide_eq_false (by omega)
                obtain ⟨b0, b1, b2, b3, b4, b5, bf, bz⟩ := boxOf hb hne
                have HQ : Hid (yday y + d - 1 + mday y (k - 1) = dayNo y k d) := Lib.hid (by unfold dayNo; rw [show ((k : Int) - 1).toNat = k - 1 by omega]; omega)
                rw [HQ.out]
                go_wp2_with fail
                exact bodyPost_ret (v := .agg #[.int .i64 4, .int .i64 (dayNo y k d), .int .i64 0, .string ⟨#[]⟩, .slice none 0 0, .slice none 0 0]) (by simp [results, Tryz.results151, go_sem, b0, b1, b2, b3, b4, b5]) rfl
                  (valS_flat hlt hr (ha.trans hb) (by first | rfl | (rw [HP.out]; rfl)) (fun y k' hy => by first | (cases hy; exact ⟨rfl, rfl⟩) | (rw [HP.out] at hy; cases hy; exact ⟨rfl, rfl⟩)) [.int .i64 4, .int .i64 (dayNo y k d), .int .i64 0, .string ⟨#[]⟩, .slice none 0 0, .slice none 0 0])
        · have HP : Hid ((pDate t i0).map (fun q => (flat 4 q.1 0 e0, q.2)) = none) := Lib.hid (by rw [pDate_m4 hm4]; rfl)
          go_upto_region 5 with (go_at_call 149; refine (take1_no _ r t _ 45 hr (by decide) hm4).mono ?_; rintro e w1 ⟨rfl, hr1, ht1⟩; have q4 := hr1.c2; have q5 := hr1.f2)
          replace hb := (hb.trans ht1).trans (To.set r _ 2 (.bool true))
          replace hr := hr1.flag true
          clear hr1 ht1 q2 q4 q5
          go_upto_region 6 with (go_at_call 168; refine (digits2_any _ r t _ true hr).mono ?_; rintro e w1 ⟨v6, j6, rfl, hr1, ht1, u6, u6', hg⟩)
          replace hb := hb.trans ht1
          replace hr := hr1
          rw [Bool.true_or] at hr
          clear hr1 ht1 hg
          have q2 := hr.c2
          go_upto_region 7 with fail
          go_wp2_with (go_at_call 148; refine (fail_any _ r t _ _ hr).mono ?_; rintro e wf ⟨he, hrf, htf⟩; unfold bad6 at he; subst he; obtain ⟨b0, b1, b2, b3, b4, b5, bf, bz⟩ := boxOf (hb.trans htf) hne)
          exact bodyPost_ret (v := bad6) (by simp [results, Tryz.results151, go_sem, b0, b1, b2, b3, b4, b5, bad6]) rfl
            (valS_flat hlt hrf ((ha.trans hb).trans htf) (by rw [HP.out]; rfl) (fun y k' hy => by rw [HP.out] at hy; cases hy) [.int .i64 (-1), .int .i64 0, .int .i64 0, .string ⟨#[]⟩, .slice none 0 0, .slice none 0 0])
    · have HP : Hid ((pDate t i0).map (fun q => (flat 4 q.1 0 e0, q.2)) = none) := Lib.hid (by rw [pDate_m2 hm2]; rfl)
      go_upto_region 3 with (go_at_call 149; refine (take1_no _ r t _ 45 hr (by decide) hm2).mono ?_; rintro e w1 ⟨rfl, hr1, ht1⟩; have q4 := hr1.c2; have q5 := hr1.f2)
      replace hb := (hb.trans ht1).trans (To.set r _ 2 (.bool true))
      replace hr := hr1.flag true
      clear hr1 ht1 q2 q4 q5
      go_upto_region 4 with (go_at_call 168; refine (digits2_any _ r t _ true hr).mono ?_; rintro e w1 ⟨v4, j4, rfl, hr1, ht1, u4, u4', hg⟩)
      replace hb := hb.trans ht1
      replace hr := hr1
      rw [Bool.true_or] at hr
      clear hr1 ht1 hg
      have q2 := hr.c2
      have q3 := hr.f2
      go_upto_region 5 with fail
      replace hr := hr.flag true
      replace hb := hb.trans (To.set r _ 2 (.bool true))
      clear q2 q3
      go_upto_region 6 with (go_at_call 168; refine (digits2_any _ r t _ true hr).mono ?_; rintro e w1 ⟨v6, j6, rfl, hr1, ht1, u6, u6', hg⟩)
      replace hb := hb.trans ht1
      replace hr := hr1
      rw [Bool.true_or] at hr
      clear hr1 ht1 hg
      have q2 := hr.c2
      go_upto_region 7 with fail
      go_wp2_with (go_at_call 148; refine (fail_any _ r t _ _ hr).mono ?_; rintro e wf ⟨he, hrf, htf⟩; unfold bad6 at he; subst he; obtain ⟨b0, b1, b2, b3, b4, b5, bf, bz⟩ := boxOf (hb.trans htf) hne)
      exact bodyPost_ret (v := bad6) (by simp [results, Tryz.results151, go_sem, b0, b1, b2, b3, b4, b5, bad6]) rfl
        (valS_flat hlt hrf ((ha.trans hb).trans htf) (by rw [HP.out]; rfl) (fun y k' hy => by rw [HP.out] at hy; cases hy) [.int .i64 (-1), .int .i64 0, .int .i64 0, .string ⟨#[]⟩, .slice none 0 0, .slice none 0 0])
end Go.Proofs.YtllhimeffkefiaaGreatDoor
/- The specification's values while they grow: two boxes and two rows of the call's own. No walk here. -/
set_option linter.unusedVariables false
namespace Go.Proofs.YtllhimeffkefiaaGreatDoor
open Go.RowKit Go.Sort

abbrev boxS (k : Int) : Obj := .cells #[.int .i64 k, .int .i64 0, .int .i64 0, .string ⟨#[]⟩, .slice none 0 0, .slice none 0 0] 179
/-- within the specification's reading of a value of many: the result's box, the value's box, its items (v) and names (u) -/
structure Lst (w : World) (r : Nat) (t : ByteArray) (W : World) (i : Nat) (b : Bool) (K : Int) (u v : Value) (ns : List ByteArray) (xs : List Val) : Prop where
  hr : Sr W r t i b
  hw : To r w W
  hh : Hold 5 4 179 (w.heap.size + 2) W u v ns xs
  b4 : Box W w.heap.size (.int .i64 0) (.int .i64 0) (.int .i64 0) (.string ⟨#[]⟩) (.slice none 0 0) (.slice none 0 0)
  b6 : Box W (w.heap.size + 1) (.int .i64 K) (.int .i64 0) (.int .i64 0) (.string ⟨#[]⟩) v u
  rl : r < w.heap.size
theorem Lst.hz {w : World} {r : Nat} {t : ByteArray} {W : World} {i : Nat} {b : Bool} {K : Int} {u v : Value} {ns : List ByteArray} {xs : List Val} (h : Lst w r t W i b K u v ns xs) : w.heap.size + 2 ≤ W.heap.size := h.b6.lt
theorem Lst.start {w : World} {r : Nat} {t : ByteArray} {i : Nat} (h : Sr w r t i false) (K : Int) : Lst w r t ((w.alloc (boxS 0)).alloc (boxS K)) i false K (.slice none 0 0) (.slice none 0 0) [] [] := by
  have hb : Below w.heap.size w ((w.alloc (boxS 0)).alloc (boxS K)) := ((Below.refl _ w).alloc (Nat.le_refl _) _).alloc (by simp) _
  refine ⟨h.below hb, To.of hb, Hold.start _ _ _ _ _, (Box.alloc w _ _ _ _ _ _ _).to (To.alloc (w.heap.size + 5) _ _) (by omega), ?_, h.lt⟩
  have := Box.alloc (w.alloc (boxS 0)) (.int .i64 K) (.int .i64 0) (.int .i64 0) (.string ⟨#[]⟩) (.slice none 0 0) (.slice none 0 0) 179
  rwa [show (w.alloc (boxS 0)).heap.size = w.heap.size + 1 by simp] at this
theorem Lst.to {w : World} {r : Nat} {t : ByteArray} {W : World} {i : Nat} {b : Bool} {K : Int} {u v : Value} {ns : List ByteArray} {xs : List Val} (h : Lst w r t W i b K u v ns xs) {W' : World} (ht : To r W W') {j : Nat} {c : Bool} (hr : Sr W' r t j c) : Lst w r t W' j c K u v ns xs :=
  ⟨hr, h.hw.trans ht, h.hh.to ht (by have := h.rl; omega), h.b4.to ht (by have := h.rl; omega), h.b6.to ht (by have := h.rl; omega), h.rl⟩
theorem Lst.below {w : World} {r : Nat} {t : ByteArray} {W : World} {i : Nat} {b : Bool} {K : Int} {u v : Value} {ns : List ByteArray} {xs : List Val} (h : Lst w r t W i b K u v ns xs) {W' : World} (hb : Below W.heap.size W W') : Lst w r t W' i b K u v ns xs := h.to (To.of hb) (h.hr.below hb)
theorem Lst.drew {w : World} {r : Nat} {t : ByteArray} {W : World} {i : Nat} {b : Bool} {K : Int} {u v : Value} {ns : List ByteArray} {xs : List Val} (h : Lst w r t W i b K u v ns xs) : Lst w r t W.drew i b K u v ns xs := h.below (below_drew W)
theorem Lst.shape {w : World} {r : Nat} {t : ByteArray} {W : World} {i : Nat} {b : Bool} {K : Int} {u v : Value} {ns : List ByteArray} {xs : List Val} (h : Lst w r t W i b K u v ns xs) (hx : xs.length ≤ 9223372036854775807) (hn : ns.length ≤ 9223372036854775807) : (∃ a c, v = .slice a xs.length c) ∧ ∃ a c, u = .slice a ns.length c :=
  ⟨(h.hh.rowI hx).shape, (h.hh.rowN hn).shape⟩
theorem VS.lits {w : World} {S : Nat → Prop} {v : Value} {x : Val} (h : VS w S v x) : ∃ k n m s a1 l1 c1 a2 l2 c2 g, v = .agg #[.int .i64 k, .int .i64 n, .int .i64 m, .string s, .slice a1 l1 c1, .slice a2 l2 c2] ∧ c6 g = [.int .i64 k, .int .i64 n, .int .i64 m, .string s, .slice a1 l1 c1, .slice a2 l2 c2] ∧ EV 5 4 w S g x := by
  obtain ⟨g, rfl, h⟩ := h
  obtain ⟨k, n, m, s, names, items⟩ := x
  obtain ⟨h0, h1, h2, h3, h4, h5⟩ := EV_iff.1 h
  obtain ⟨a, c, e4⟩ := h4.shape
  obtain ⟨a', c', e5⟩ := h5.shape
  exact ⟨k, n, m, s, a', _, c', a, _, c, g, by rw [h0, h1, h2, h3, e4, e5], by unfold c6; rw [h0, h1, h2, h3, e4, e5], h⟩
/-- an item is appended and stored -/
theorem Lst.item {w : World} {r : Nat} {t : ByteArray} {w3 W : World} {i : Nat} {b : Bool} {K : Int} {u v : Value} {ns : List ByteArray} {xs : List Val} (L : Lst w r t w3 i b K u v ns xs) (hb : Below w3.heap.size w3 W)
    {fs : List (Nat → Value)} (hl : fs.length = xs.length) (ho : W.ownsRow (w.heap.size + 2) 179 6 v xs.length (fs.flatMap c6))
    (he : ∀ (k : Nat) (f : Nat → Value) (x : Val), fs[k]? = some f → xs[k]? = some x → EV 5 4 W (fun b => w.heap.size + 2 ≤ b ∧ b < W.heap.size ∧ v.ownBlock ≠ some b ∧ u.ownBlock ≠ some b) f x)
    {g : Nat → Value} {x : Val} {gg cap : Nat} {w6 : World} (hown : w6.ownsRow (w.heap.size + 2) 179 6 (.slice (some ⟨gg, 0, none⟩) (xs.length + 1) cap) (xs.length + 1) (fs.flatMap c6 ++ c6 g)) (hgrow : W.grownBy w6 v.ownBlock) (hat : v.ownBlock = some gg ∨ gg = W.heap.size) (hlt : gg < w6.heap.size)
    (hx : EV 5 4 W (fun b => w.heap.size + 2 ≤ b ∧ b < W.heap.size ∧ v.ownBlock ≠ some b ∧ u.ownBlock ≠ some b) g x) :
    Box w6 (w.heap.size + 1) (.int .i64 K) (.int .i64 0) (.int .i64 0) (.string ⟨#[]⟩) v u ∧
    Lst w r t (w6.setCell ⟨w.heap.size + 1, 4, none⟩ (.slice (some ⟨gg, 0, none⟩) (xs.length + 1) cap)) i b K u (.slice (some ⟨gg, 0, none⟩) (xs.length + 1) cap) ns (xs ++ [x]) := by
  have L1 := L.below hb
  have hrl := L.rl
  have H7 := Hold.item L1.hh hl ho he hown hgrow hat hlt hx
  have hv4 : ∀ q, v.ownBlock = some q → w.heap.size + 2 ≤ q := fun q e => (ho.lt q e).1
  have B4 := L1.b4.grown hgrow (fun e => by have := hv4 _ e; omega)
  have B6 := L1.b6.grown hgrow (fun e => by have := hv4 _ e; omega)
  have hr := Sr.grown (w := w) hrl L1.hr hgrow (fun q hq => by have := hv4 _ hq; omega)
  have hw := L1.hw.grown hgrow (fun q hq => by have := hv4 _ hq; omega)
  exact ⟨B6, hr.other (by show w.heap.size + 1 ≠ r; omega) _, hw.setNew (a := ⟨w.heap.size + 1, 4, none⟩) (Nat.le_succ _) _, H7.set (a := ⟨w.heap.size + 1, 4, none⟩) (Nat.lt_succ_self _) _, B4.other (a := ⟨w.heap.size + 1, 4, none⟩) (Nat.succ_ne_self _) _, B6.set4 _, hrl⟩
/-- a name is appended and stored -/
theorem Lst.name {w : World} {r : Nat} {t : ByteArray} {w3 W : World} {i : Nat} {b : Bool} {K : Int} {u v : Value} {ns : List ByteArray} {xs : List Val} (L : Lst w r t w3 i b K u v ns xs) (hb : Below w3.heap.size w3 W)
    {s : ByteArray} (hs : Sz s) {gg cap : Nat} {w6 : World} (hown : w6.ownsRow (w.heap.size + 2) 9 1 (.slice (some ⟨gg, 0, none⟩) (ns.length + 1) cap) (ns.length + 1) (ns.map Value.string ++ [.string s])) (hgrow : W.grownBy w6 u.ownBlock) (hat : u.ownBlock = some gg ∨ gg = W.heap.size) (hlt : gg < w6.heap.size) :
    Box w6 (w.heap.size + 1) (.int .i64 K) (.int .i64 0) (.int .i64 0) (.string ⟨#[]⟩) v u ∧
    Lst w r t (w6.setCell ⟨w.heap.size + 1, 5, none⟩ (.slice (some ⟨gg, 0, none⟩) (ns.length + 1) cap)) i b K (.slice (some ⟨gg, 0, none⟩) (ns.length + 1) cap) v (ns ++ [s]) xs := by
  have L1 := L.below hb
  have hrl := L.rl
  have H7 := Hold.name L1.hh hs hown hgrow hat hlt
  have hv4 : ∀ q, u.ownBlock = some q → w.heap.size + 2 ≤ q := fun q e => (L1.hh.names.lt q e).1
  have B4 := L1.b4.grown hgrow (fun e => by have := hv4 _ e; omega)
  have B6 := L1.b6.grown hgrow (fun e => by have := hv4 _ e; omega)
  have hr := Sr.grown (w := w) hrl L1.hr hgrow (fun q hq => by have := hv4 _ hq; omega)
  have hw := L1.hw.grown hgrow (fun q hq => by have := hv4 _ hq; omega)
  exact ⟨B6, hr.other (by show w.heap.size + 1 ≠ r; omega) _, hw.setNew (a := ⟨w.heap.size + 1, 5, none⟩) (Nat.le_succ _) _, H7.set (a := ⟨w.heap.size + 1, 5, none⟩) (Nat.lt_succ_self _) _, B4.other (a := ⟨w.heap.size + 1, 5, none⟩) (Nat.succ_ne_self _) _, B6.set5 _, hrl⟩
/-- the value is handed back -/
theorem Lst.done {w : World} {r : Nat} {t : ByteArray} {W : World} {i : Nat} {b : Bool} {K : Int} {u v : Value} {ns : List ByteArray} {xs : List Val} {p : Option (Val × Nat)} (L : Lst w r t W i b K u v ns xs) (hn : ns.length ≤ 9223372036854775807) (hx : xs.length ≤ 9223372036854775807) (hb : b = p.isNone)
    (hp : ∀ y k', p = some (y, k') → Val.mk K 0 0 e0 ns xs = y ∧ i = k') (us : List Value) :
    ValS r t p w (.returned (.agg #[.int .i64 K, .int .i64 0, .int .i64 0, .string ⟨#[]⟩, v, u])) (sets W w.heap.size 0 us) := by
  have hrl := L.rl
  refine ⟨_, .mk K 0 0 e0 ns xs, i, rfl, ⟨fun j => if j = 0 then .int .i64 K else if j = 1 then .int .i64 0 else if j = 2 then .int .i64 0 else if j = 3 then .string ⟨#[]⟩ else if j = 4 then v else u, rfl, ?_⟩, by rw [← hb]; exact Sr.sets (by omega) us 0 L.hr, To.sets (Nat.le_refl _) _ _ L.hw, hp⟩
  have e1 := (L.hh.rowN hn).sets EStr.kept (g := w.heap.size) (by omega) 0 us
  have e2 := (L.hh.rowI hx).sets (EV.kept 5 4) (g := w.heap.size) (by omega) 0 us
  exact EV_iff.2 ⟨rfl, rfl, rfl, rfl, e1.mono EStr.mono (fun b hb => by omega), e2.mono (EV.mono 5 4) (fun b hb => by omega)⟩
/-- it failed -/
theorem Lst.bad {w : World} {r : Nat} {t : ByteArray} {W : World} {i : Nat} {K : Int} {u v : Value} {ns : List ByteArray} {xs : List Val} {p : Option (Val × Nat)} (L : Lst w r t W i true K u v ns xs) (hp : p = none) (us : List Value) :
    ValS r t p w (.returned (.agg #[.int .i64 (-1), .int .i64 0, .int .i64 0, .string ⟨#[]⟩, .slice none 0 0, .slice none 0 0])) (sets W w.heap.size 0 us) :=
  valS_flat L.rl L.hr L.hw (by rw [hp]; rfl) (fun y k' hy => by rw [hp] at hy; cases hy) us
def VSk (f : Par) (d : Int) : Prop := ∀ (w : World) (r : Nat) (t : ByteArray) (i : Nat), Sr w r t i false → Calls Tryz.prog 145 #[.pointer (some ⟨r, 0, none⟩), .int .i64 d] w (ValS r t (f t i) w)
end Go.Proofs.YtllhimeffkefiaaGreatDoor
/- The specification's reading of lists. Condition: texts of at most 2^20 bytes. -/
set_option linter.unusedVariables false
set_option linter.unusedSimpArgs false
namespace Go.Proofs.YtllhimeffkefiaaGreatDoor
open Go.RowKit Go.Sort

set_option maxHeartbeats 400000 in
set_option maxRecDepth 100000 in
theorem slist_any (d : Int) (hd0 : 0 ≤ d) (hd : d < 5) (f : Par) (hf : VSk f (d + 1)) (hp : f.Fwd) (w : World) (r : Nat) (t : ByteArray) (i : Nat) (h : Sr w r t (i + 1) false) :
    Calls Tryz.prog 155 #[.pointer (some ⟨r, 0, none⟩), .int .i64 d] w (ValS r t (pList f t i) w) := by
  have hlt := h.lt
  have hsz := h.sz
  have hne : w.heap.size ≠ r := by omega
  have hne2 : w.heap.size + 1 ≠ r := by omega
  have L0 := Lst.start h 6
  have hdw : IntKind.i64.wrap (d + 1) = d + 1 := wrap64_of _ (by omega) (by omega)
  have hdw2 : wrap64 (d + 1) = d + 1 := by rw [wrap64_is, hdw]
  obtain ⟨i0, hi0, hz0, hz1, hz2⟩ := info_parts (show (Tryz.prog.info? 179).map (fun i => (i.zero, i.size, i.bytes)) = some (some (.agg #[.int .i64 0, .int .i64 0, .int .i64 0, .string ⟨#[]⟩, .slice none 0 0, .slice none 0 0]), 6, 88) by kernel_rfl)
  by_cases h93 : byI t (i + 1) = 93
  · have HP : Hid (pList f t i = some (.mk 6 0 0 e0 [] [], i + 1 + 1)) := Lib.hid (by unfold pList; rw [if_pos h93])
    have H93 := Lib.hid h93
    clear h93
    go_enter Tryz.func155, Tryz.ntmps155
    go_wp2_with (go_at_call 149; refine (take1_yes _ r t (i + 1) 93 L0.hr (by decide) H93.out).mono ?_; rintro e w2 ⟨rfl, hr2, ht2⟩; have L2 := L0.to ht2 hr2; obtain ⟨p0, p1, p2, p3, p4, p5, pf⟩ := L2.b4; obtain ⟨c0, c1, c2, c3, c4, c5, cf⟩ := L2.b6)
    exact bodyPost_ret (v := .agg #[.int .i64 6, .int .i64 0, .int .i64 0, .string ⟨#[]⟩, .slice none 0 0, .slice none 0 0]) (by simp [results, Tryz.results155, go_sem, p0, p1, p2, p3, p4, p5]) rfl
      (L2.done (by simp) (by simp) (by rw [HP.out]; rfl) (fun y k' hy => by rw [HP.out] at hy; cases hy; exact ⟨rfl, rfl⟩) [.int .i64 6, .int .i64 0, .int .i64 0, .string ⟨#[]⟩, .slice none 0 0, .slice none 0 0])
  · have HP : Hid (pList f t i = pIts f t (i + 1) []) := Lib.hid (by unfold pList; rw [if_neg h93])
    have H93 := Lib.hid h93
    clear h93
    go_enter Tryz.func155, Tryz.ntmps155
    go_wp2_with (go_at_call 149; refine (take1_no _ r t (i + 1) 93 L0.hr (by decide) H93.out).mono ?_; rintro e w2 ⟨rfl, hr2, ht2⟩; have L2 := L0.to ht2 hr2)
    go_loopw [] (fun wr => ∃ (k : Nat) (xs : List Val) (v : Value), xs.length ≤ k ∧ k ≤ t.size ∧ Hid (pIts f t (i + 1) [] = pIts f t k xs) ∧ Lst w r t wr k false 6 (.slice none 0 0) v [] xs) (fun wr => lefS r t wr)
    case atStart => exact ⟨i + 1, [], _, Nat.zero_le _, hr2.le, rfl, L2⟩
    case round =>
      clear L2 hr2 ht2 L0
      obtain ⟨k, xs, v, hk1, hk, HR, L⟩ := hrel
      have hsz2 : (t.size : Int) ≤ 1048576 := by omega
      obtain ⟨v1, v2, v3, rfl⟩ : ∃ v1 v2 v3, v = .slice v1 v2 v3 := by
        obtain ⟨⟨v1, v3, e⟩, _⟩ := L.shape (by omega) (by simp)
        exact ⟨_, _, _, e⟩
      have q2 := L.hr.c2
      have d0 := L.b6.b4
      have hm2 := L.hr.lef
      go_upto_region 5 with fail
      go_region_law (first
        | (have hb5 : Below w3.heap.size w3 (w3.alloc (.cells #[.int .i64 k', .int .i64 n', .int .i64 m', .string s', .slice a1 l1 c1', .slice a2 l2 c2'] 179)) := (Below.refl _ w3).alloc (Nat.le_refl _) _; have H5 := L3.hh.below hb5; obtain ⟨fs, hfl, ho5, he5⟩ := H5.items; refine step_append_lies _ (by rfl) (.tmp 16) (.tmp 21) 177 (by rfl) (w.heap.size + 2) 179 i0 (.agg #[.int .i64 0, .int .i64 0, .int .i64 0, .string ⟨#[]⟩, .slice none 0 0, .slice none 0 0]) 6 88 Tryz.underlying177 hi0 hz0 hz1 hz2 rfl (by decide) (.slice v1 v2 v3) xs.length (fs.flatMap c6) (by rfl) ho5 ⟨_, 0, none⟩ 1 1 [.int .i64 k', .int .i64 n', .int .i64 m', .string s', .slice a1 l1 c1', .slice a2 l2 c2'] (by rfl) rfl (World.news_of_block (new_block (by simp) _ _)) (hg ▸ EV.one (.inr ⟨rfl, rfl⟩) hEV) (by decide) (by unfold maxLen; omega) (by omega) (by simp <;> omega) _ rfl ?_; intro gg cap w6 hown6 hgrow6 hat6 hlt6; have hgrow6 : World.grownBy _ w6 (Value.slice v1 v2 v3).ownBlock := hgrow6; have hat6 : (Value.slice v1 v2 v3).ownBlock = some gg ∨ gg = _ := hat6; rw [← hg] at hown6; obtain ⟨BB, L6⟩ := Lst.item L3 hb5 hfl ho5 he5 hown6 hgrow6 hat6 hlt6 (Hold.fresh L.drew.hh L.drew.hz hEV hb5); have d4 := BB.b4; have df := BB.bf)
        | (go_simp; go_at_call 145; refine (hf _ r t k L.drew.hr).mono ?_; rintro e w3 ⟨vv, x, j, rfl, hVS, hr3, ht3, hval⟩; obtain ⟨k', n', m', s', a1, l1, c1', a2, l2, c2', g, rfl, hg, hEV⟩ := hVS.lits; have L3 := L.drew.to ht3 hr3; have d4 := L3.b6.b4; have hz3 := L3.hz; have d4a := fun o => (L3.below ((Below.refl _ w3).alloc (Nat.le_refl _) o)).b6.b4))

      all_goals clear d4 d4a df BB hown6 hgrow6 hat6 d0 q2
      all_goals generalize w6.setCell ⟨w.heap.size + 1, 4, none⟩ (.slice (some ⟨gg, 0, none⟩) (xs.length + 1) cap) = w7 at L6 ⊢
      all_goals
         cases hv : f t k with
         | none =>
           have HF : Hid (pList f t i = none) := Lib.hid (by rw [HP.out, HR.out, pIts_eq hp hk, hv])
           rw [hv] at L6
           simp only [Option.isNone_none] at L6
           clear hv
           have tok : True := trivial
           go_wp2_with (first
             | (go_at_call 149; clear tok; refine (takes_bad _ r t _ _ L6.hr).mono ?_; rintro e w8 ⟨rfl, hr8, ht8⟩; have L8 := L6.to ht8 hr8)
             | (go_at_call 149; refine (takes_bad _ r t _ _ L8.hr).mono ?_; rintro e w9 ⟨rfl, hr9, ht9⟩; have L9 := L8.to ht9 hr9)
             | (go_at_call 148; refine (fail_any _ r t _ _ L9.hr).mono ?_; rintro e wf ⟨he, hrf, htf⟩; unfold bad6 at he; subst he; have Lf := L9.to htf hrf; obtain ⟨p0, p1, p2, p3, p4, p5, pf⟩ := Lf.b4))
           exact bodyPost_ret (v := .agg #[.int .i64 (-1), .int .i64 0, .int .i64 0, .string ⟨#[]⟩, .slice none 0 0, .slice none 0 0]) (by simp [results, Tryz.results155, go_sem, p0, p1, p2, p3, p4, p5]) rfl
             (Lf.bad (by rw [HF.out]) [.int .i64 (-1), .int .i64 0, .int .i64 0, .string ⟨#[]⟩, .slice none 0 0, .slice none 0 0])

         | some p =>
           obtain ⟨y, l⟩ := p
           obtain ⟨rfl, rfl⟩ := hval y l hv
           have hkl := hp t k x j hk hv
           have HE : Hid (pList f t i = if byI t j = 93 then some (.mk 6 0 0 e0 [] (xs ++ [x]), j + 1) else if byI t j = 44 then pIts f t (j + 1) (xs ++ [x]) else none) := Lib.hid (by rw [HP.out, HR.out, pIts_eq hp hk, hv])
           have HE2 : Hid (byI t j ≠ 93 → byI t j = 44 → pIts f t k xs = pIts f t (j + 1) (xs ++ [x])) := Lib.hid (fun h1 h2 => by rw [pIts_eq hp hk, hv]; simp only []; rw [if_neg h1, if_pos h2])
           rw [hv] at L6
           simp only [Option.isNone_some] at L6
           clear hv
           by_cases q93 : byI t j = 93
           · have HF : Hid (pList f t i = some (.mk 6 0 0 e0 [] (xs ++ [x]), j + 1)) := Lib.hid (by rw [HE.out, if_pos q93])
             have Q93 := Lib.hid q93
             clear q93 HE HE2
             go_wp2_with (go_at_call 149; refine (take1_yes _ r t _ 93 L6.hr (by decide) Q93.out).mono ?_; rintro e w8 ⟨rfl, hr8, ht8⟩; have L8 := L6.to ht8 hr8; obtain ⟨p0, p1, p2, p3, p4, p5, pf⟩ := L8.b4; obtain ⟨c0, c1, c2, c3, c4, c5, cf⟩ := L8.b6)
             exact bodyPost_ret (v := .agg #[.int .i64 6, .int .i64 0, .int .i64 0, .string ⟨#[]⟩, .slice (some ⟨gg, 0, none⟩) (xs.length + 1) cap, .slice none 0 0]) (by simp [results, Tryz.results155, go_sem, p0, p1, p2, p3, p4, p5]) rfl
               (L8.done (by simp) (by simp; omega) (by rw [HF.out]; rfl) (fun y k' hy => by rw [HF.out] at hy; cases hy; exact ⟨rfl, rfl⟩) [.int .i64 6, .int .i64 0, .int .i64 0, .string ⟨#[]⟩, .slice (some ⟨gg, 0, none⟩) (xs.length + 1) cap, .slice none 0 0])
           · by_cases q44 : byI t j = 44
             · have HG := Lib.hid (HE2.out q93 q44)
               have hl44 := byI_pos (by decide) q44
               have Q93 := Lib.hid q93
               have Q44 := Lib.hid q44
               clear q93 q44 HE HE2
               have tok : True := trivial
               go_wp2_with (first
                 | (go_at_call 149; clear tok; refine (take1_no _ r t _ 93 L6.hr (by decide) Q93.out).mono ?_; rintro e w8 ⟨rfl, hr8, ht8⟩; have L8 := L6.to ht8 hr8)
                 | (go_at_call 149; refine (take1_yes _ r t _ 44 L8.hr (by decide) Q44.out).mono ?_; rintro e w9 ⟨rfl, hr9, ht9⟩; have L9 := L8.to ht9 hr9))
               have hm1 := L9.hr.lef
               go_roundw
               case rel => exact ⟨j + 1, xs ++ [x], _, by simp; omega, hl44, HR.out.trans HG.out, L9⟩
               case measure => omega
             · have HF : Hid (pList f t i = none) := Lib.hid (by rw [HE.out, if_neg q93, if_neg q44])
               have Q93 := Lib.hid q93
               have Q44 := Lib.hid q44
               clear q93 q44 HE HE2
               have tok : True := trivial
               go_wp2_with (first
                 | (go_at_call 149; clear tok; refine (take1_no _ r t _ 93 L6.hr (by decide) Q93.out).mono ?_; rintro e w8 ⟨rfl, hr8, ht8⟩; have L8 := L6.to ht8 hr8)
                 | (go_at_call 149; refine (take1_no _ r t _ 44 L8.hr (by decide) Q44.out).mono ?_; rintro e w9 ⟨rfl, hr9, ht9⟩; have L9 := L8.to ht9 hr9)
                 | (go_at_call 148; refine (fail_any _ r t _ _ L9.hr).mono ?_; rintro e wf ⟨he, hrf, htf⟩; unfold bad6 at he; subst he; have Lf := L9.to htf hrf; obtain ⟨p0, p1, p2, p3, p4, p5, pf⟩ := Lf.b4))
               exact bodyPost_ret (v := .agg #[.int .i64 (-1), .int .i64 0, .int .i64 0, .string ⟨#[]⟩, .slice none 0 0, .slice none 0 0]) (by simp [results, Tryz.results155, go_sem, p0, p1, p2, p3, p4, p5]) rfl
                 (Lf.bad (by rw [HF.out]) [.int .i64 (-1), .int .i64 0, .int .i64 0, .string ⟨#[]⟩, .slice none 0 0, .slice none 0 0])


end Go.Proofs.YtllhimeffkefiaaGreatDoor
