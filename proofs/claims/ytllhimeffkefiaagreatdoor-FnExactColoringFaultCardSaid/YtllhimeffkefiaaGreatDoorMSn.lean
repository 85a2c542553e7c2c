/- Texts of one proof, joined in their order: each bears its own word of what it holds and on what condition. -/
import Derived.Test.YtllhimeffkefiaaGreatDoorMSm
import Derived.Test.YtllhimeffkefiaaGreatDoorMVo
set_option linter.unusedVariables false
set_option linter.unusedSimpArgs false
/- The specification's reading of values. Condition: texts of at most 2^20 bytes. -/
set_option linter.unusedVariables false
set_option linter.unusedSimpArgs false
namespace Go.Proofs.YtllhimeffkefiaaGreatDoor
open Go.RowKit Go.Sort

/-! ### what a value begins with -/
theorem begB_first {t : ByteArray} {i : Nat} {c : UInt8} {l : List UInt8} (h : begB t i ⟨(c :: l).toArray⟩ = true) : byI t i = c.toNat := by
  unfold begB Lib.hasPrefix at h
  by_cases hi : i < t.size
  · rw [ext_cons hi (Nat.le_refl _)] at h
    simp only [List.isPrefixOf, Bool.and_eq_true, beq_iff_eq] at h
    rw [byI_eq hi, h.1]
  · rw [ext_nil (by omega)] at h
    simp [List.isPrefixOf] at h
section
variable {L M : Option (Val × Nat)} {t : ByteArray} {i : Nat}
theorem pv_null (h : begB t i tNull = true) : pValB L M t i = some (flat 0 0 0 e0, i + 4) := by
  have hb : byI t i = 110 := begB_first h
  unfold pValB
  rw [hb, h]
  simp [digB]
theorem pv_true (hn : begB t i tNull = false) (h : begB t i tTrue = true) : pValB L M t i = some (flat 1 1 0 e0, i + 4) := by
  have hb : byI t i = 116 := begB_first h
  unfold pValB
  rw [hb, h, hn]
  simp [digB]
theorem pv_false (hn : begB t i tNull = false) (ht : begB t i tTrue = false) (h : begB t i tFalse = true) : pValB L M t i = some (flat 1 0 0 e0, i + 5) := by
  have hb : byI t i = 102 := begB_first h
  unfold pValB
  rw [hb, h, hn, ht]
  simp [digB]
theorem pv_34 (h : byI t i = 34) : pValB L M t i = (pQuo t i).map fun p => (flat 3 0 0 p.1, p.2) := by unfold pValB; rw [if_pos h]
theorem pv_64 (h : byI t i = 64) : pValB L M t i = (pDate t i).map fun p => (flat 4 p.1 0 e0, p.2) := by unfold pValB; rw [h]; simp
theorem pv_40 (h : byI t i = 40) : pValB L M t i = pPoint t i := by unfold pValB; rw [h]; simp [digB]
theorem pv_91 (h : byI t i = 91) : pValB L M t i = L := by unfold pValB; rw [h]; simp [digB]
theorem pv_123 (h : byI t i = 123) : pValB L M t i = M := by unfold pValB; rw [h]; simp [digB]
theorem pv_60 (h : byI t i = 60) : pValB L M t i = pPath t i := by unfold pValB; rw [h]; simp [digB]
theorem pv_110 (hi : i ≤ t.size) (h : byI t i = 110) (hn : begB t i tNull = false) : pValB L M t i = pThg 8 t (i + 1) := by
  have ht : begB t i tTrue = false := by
    cases q : begB t i tTrue with
    | false => rfl
    | true => have : byI t i = 116 := begB_first q; omega
  have hf : begB t i tFalse = false := by
    cases q : begB t i tFalse with
    | false => rfl
    | true => have : byI t i = 102 := begB_first q; omega
  rw [← pThing_8 hi h]
  unfold pValB
  rw [h, hn, ht, hf]
  simp [digB]
theorem pv_101 (hi : i ≤ t.size) (h : byI t i = 101) : pValB L M t i = pThg 9 t (i + 1) := by
  have hn : begB t i tNull = false := by
    cases q : begB t i tNull with
    | false => rfl
    | true => have : byI t i = 110 := begB_first q; omega
  have ht : begB t i tTrue = false := by
    cases q : begB t i tTrue with
    | false => rfl
    | true => have : byI t i = 116 := begB_first q; omega
  have hf : begB t i tFalse = false := by
    cases q : begB t i tFalse with
    | false => rfl
    | true => have : byI t i = 102 := begB_first q; omega
  rw [← pThing_9 hi h]
  unfold pValB
  rw [h, hn, ht, hf]
  simp [digB]
theorem pNum_not (hi : i ≤ t.size) (h : ¬ (byI t i = 45 ∨ digB (byI t i) = true)) : pNum t i = none := by
  cases hp : pNum t i with
  | none => rfl
  | some v =>
    have h1 := (pNum_val hi hp).2.1
    have ha : numAt t i = i := by unfold numAt; rw [if_neg (fun q => h (.inl q))]
    have : run digB t i = i := run_stop (fun q => h (.inr q.2))
    have he : numEnd t i = run digB t (numAt t i) := rfl
    rw [he, ha, this] at h1
    omega
theorem pv_num (hi : i ≤ t.size) (h34 : ¬ byI t i = 34) (h64 : ¬ byI t i = 64) (h40 : ¬ byI t i = 40) (h110 : ¬ byI t i = 110) (h101 : ¬ byI t i = 101) (h60 : ¬ byI t i = 60)
    (hn : begB t i tNull = false) (ht : begB t i tTrue = false) (hf : begB t i tFalse = false) (hL : byI t i = 91 → L = none) (hM : byI t i = 123 → M = none) : pValB L M t i = (pNum t i).map fun v => (flat 2 v 0 e0, numEnd t i) := by
  unfold pValB
  rw [if_neg h34, if_neg h64]
  by_cases hd : byI t i = 45 ∨ digB (byI t i) = true
  · rw [if_pos hd]
  · rw [if_neg hd, if_neg h40, pNum_not hi hd]
    by_cases h91 : byI t i = 91
    · rw [if_pos h91, hL h91]; rfl
    · rw [if_neg h91]
      by_cases h123 : byI t i = 123
      · rw [if_pos h123, hM h123]; rfl
      · rw [if_neg h123, if_neg h60, hn, ht, hf]
        simp [pThing, h101, h110]
theorem pv_end (h : ¬ i < t.size) : pValB L M t i = none := by
  have hb : byI t i = 0 := by unfold byI; rw [dif_neg h]
  have hn : begB t i tNull = false := by
    cases q : begB t i tNull with
    | false => rfl
    | true => have : byI t i = 110 := begB_first q; omega
  have ht : begB t i tTrue = false := by
    cases q : begB t i tTrue with
    | false => rfl
    | true => have : byI t i = 116 := begB_first q; omega
  have hf : begB t i tFalse = false := by
    cases q : begB t i tFalse with
    | false => rfl
    | true => have : byI t i = 102 := begB_first q; omega
  unfold pValB pThing
  rw [hb, hn, ht, hf]
  simp [digB]
theorem mil_iff {x : Int} : mil x = true ↔ -1000000 ≤ x ∧ x ≤ 1000000 := by simp [mil]
theorem pPoint_rng {n1 n2 : Int} (h1 : pNum t (i + 1) = some n1) (h32 : byI t (numEnd t (i + 1)) = 32) (h2 : pNum t (numEnd t (i + 1) + 1) = some n2) (h41 : byI t (numEnd t (numEnd t (i + 1) + 1)) = 41) (h : ¬ (mil n1 = true ∧ mil n2 = true)) : pPoint t i = none := by
  unfold pPoint
  rw [h1]
  simp only []
  rw [if_pos h32]
  unfold pPoint2
  rw [h2]
  simp only []
  rw [if_neg (fun q => h q.2)]
theorem pPoint_ok {n1 n2 : Int} (h1 : pNum t (i + 1) = some n1) (h32 : byI t (numEnd t (i + 1)) = 32) (h2 : pNum t (numEnd t (i + 1) + 1) = some n2) (h41 : byI t (numEnd t (numEnd t (i + 1) + 1)) = 41) (m1 : mil n1 = true) (m2 : mil n2 = true) : pPoint t i = some (flat 5 n1 n2 e0, numEnd t (numEnd t (i + 1) + 1) + 1) := by
  unfold pPoint
  rw [h1]
  simp only []
  rw [if_pos h32]
  unfold pPoint2
  rw [h2]
  simp only []
  rw [if_pos ⟨h41, m1, m2⟩]
end
theorem valS_pass {r : Nat} {t : ByteArray} {w w0 w3 : World} {j : Nat} {b : Bool} {k n m : Int} {s : ByteArray} {a1 a2 : Option Addr} {l1 l2 c1 c2 : Nat} {g : Nat → Value} {x : Val} {p : Option (Val × Nat)} (hlt : r < w.heap.size) (hz : w.heap.size + 1 ≤ w0.heap.size)
    (hE : EV 5 4 w3 (fun b => w0.heap.size ≤ b) g x) (hg : c6 g = [.int .i64 k, .int .i64 n, .int .i64 m, .string s, .slice a1 l1 c1, .slice a2 l2 c2]) (hr : Sr w3 r t j b) (ht0 : To r w w0) (ht : To r w0 w3) (hb : b = p.isNone) (hp : ∀ y k, p = some (y, k) → x = y ∧ j = k) :
    ValS r t p w (.returned (.agg #[.int .i64 k, .int .i64 n, .int .i64 m, .string s, .slice a1 l1 c1, .slice a2 l2 c2])) (sets w3 w.heap.size 0 [.int .i64 k, .int .i64 n, .int .i64 m, .string s, .slice a1 l1 c1, .slice a2 l2 c2]) := by
  refine ⟨_, x, j, rfl, ⟨g, ?_, ?_⟩, by rw [← hb]; exact Sr.sets (by omega) _ 0 hr, To.sets (Nat.le_refl _) _ _ (ht0.trans ht), hp⟩
  · simp only [c6, List.cons.injEq] at hg
    obtain ⟨h0, h1, h2, h3, h4, h5, _⟩ := hg
    rw [h0, h1, h2, h3, h4, h5]
  · exact EV_mono 5 4 (fun b hb => by omega) x g (EV_kept 5 4 (fun b hb _ => sets_heap _ _ _ _ b (by omega)) x g hE)

set_option maxHeartbeats 16000000 in
set_option maxRecDepth 100000 in
theorem svalueB_any (d : Int) (hd0 : 0 ≤ d) (hd6 : d ≤ 5) (L M : Par)
    (hL : d < 5 → ∀ (w : World) (r : Nat) (t : ByteArray) (i : Nat), Sr w r t (i + 1) false → Calls Tryz.prog 155 #[.pointer (some ⟨r, 0, none⟩), .int .i64 d] w (ValS r t (L t i) w))
    (hM : d < 5 → ∀ (w : World) (r : Nat) (t : ByteArray) (i : Nat), Sr w r t (i + 1) false → Calls Tryz.prog 156 #[.pointer (some ⟨r, 0, none⟩), .int .i64 d] w (ValS r t (M t i) w))
    (hN : ¬ d < 5 → ∀ t i, L t i = none ∧ M t i = none) : VSk (fun t i => pValB (L t i) (M t i) t i) d := by
  have HN := Lib.hid hN
  clear hN
  intro w r t i h
  have hlt := h.lt
  have hi := h.le
  have hsz := h.sz
  have hne : w.heap.size ≠ r := by omega
  have ha := To.alloc r w (boxS 0)
  have hr := h.alloc (boxS 0)
  have hb := To.refl r (w.alloc (boxS 0))
  have k0 := hr.c0
  have k1 := hr.c1
  have k2 := hr.c2
  by_cases hlen : i < t.size
  · have z1 : decide ((t.size : Int) ≤ i) = false := decide_eq_false (by omega)
    have z2 : decide (t.size ≤ i) = false := decide_eq_false (by omega)
    go_enter Tryz.func145, Tryz.ntmps145
    go_upto_region 1 with fail
    go_big_quiet (fail)
    replace hr := hr.below (drewN_below _ nq)
    replace hb := hb.trans (To.of (drewN_below _ nq))
    go_upto_region 3 with fail
    clear k0 k1 k2
    generalize (w.alloc (boxS 0)).drewN nq = wk at hr hb ⊢
    cases hcn : begB t i tNull with
    | true =>
      go_upto_region 4 with (go_at_call 149; refine (takes_yes _ r t i tNull hr (by decide) hcn).mono ?_; rintro e wk ⟨rfl, hrk, htk⟩)
      replace hr := hrk
      replace hb := hb.trans htk
      clear hrk htk
      have HP : Hid (pValB (L t i) (M t i) t i = some (flat 0 0 0 e0, i + 4)) := Lib.hid (by exact pv_null hcn)
      obtain ⟨b0, b1, b2, b3, b4, b5, bf, bz⟩ := boxOf hb hne
      go_wp2_with fail
      exact bodyPost_ret (v := .agg #[.int .i64 0, .int .i64 0, .int .i64 0, .string ⟨#[]⟩, .slice none 0 0, .slice none 0 0]) (by simp [results, Tryz.results145, go_sem, b0, b1, b2, b3, b4, b5]) rfl
        (valS_flat hlt hr (ha.trans hb) (by rw [HP.out]; rfl) (fun y k' hy => by rw [HP.out] at hy; cases hy; exact ⟨rfl, rfl⟩) [.int .i64 0, .int .i64 0, .int .i64 0, .string ⟨#[]⟩, .slice none 0 0, .slice none 0 0])
    | false =>
      go_upto_region 5 with (go_at_call 149; refine (takes_no _ r t i tNull hr (by decide) hcn).mono ?_; rintro e wk ⟨rfl, hrk, htk⟩)
      replace hr := hrk
      replace hb := hb.trans htk
      clear hrk htk
      cases hct : begB t i tTrue with
      | true =>
        go_upto_region 6 with (go_at_call 149; refine (takes_yes _ r t i tTrue hr (by decide) hct).mono ?_; rintro e wk ⟨rfl, hrk, htk⟩)
        replace hr := hrk
        replace hb := hb.trans htk
        clear hrk htk
        have HP : Hid (pValB (L t i) (M t i) t i = some (flat 1 1 0 e0, i + 4)) := Lib.hid (by exact pv_true hcn hct)
        obtain ⟨b0, b1, b2, b3, b4, b5, bf, bz⟩ := boxOf hb hne
        go_wp2_with fail
        exact bodyPost_ret (v := .agg #[.int .i64 1, .int .i64 1, .int .i64 0, .string ⟨#[]⟩, .slice none 0 0, .slice none 0 0]) (by simp [results, Tryz.results145, go_sem, b0, b1, b2, b3, b4, b5]) rfl
          (valS_flat hlt hr (ha.trans hb) (by rw [HP.out]; rfl) (fun y k' hy => by rw [HP.out] at hy; cases hy; exact ⟨rfl, rfl⟩) [.int .i64 1, .int .i64 1, .int .i64 0, .string ⟨#[]⟩, .slice none 0 0, .slice none 0 0])
      | false =>
        go_upto_region 7 with (go_at_call 149; refine (takes_no _ r t i tTrue hr (by decide) hct).mono ?_; rintro e wk ⟨rfl, hrk, htk⟩)
        replace hr := hrk
        replace hb := hb.trans htk
        clear hrk htk
        cases hcf : begB t i tFalse with
        | true =>
          go_upto_region 8 with (go_at_call 149; refine (takes_yes _ r t i tFalse hr (by decide) hcf).mono ?_; rintro e wk ⟨rfl, hrk, htk⟩)
          replace hr := hrk
          replace hb := hb.trans htk
          clear hrk htk
          have HP : Hid (pValB (L t i) (M t i) t i = some (flat 1 0 0 e0, i + 5)) := Lib.hid (by exact pv_false hcn hct hcf)
          obtain ⟨b0, b1, b2, b3, b4, b5, bf, bz⟩ := boxOf hb hne
          go_wp2_with fail
          exact bodyPost_ret (v := .agg #[.int .i64 1, .int .i64 0, .int .i64 0, .string ⟨#[]⟩, .slice none 0 0, .slice none 0 0]) (by simp [results, Tryz.results145, go_sem, b0, b1, b2, b3, b4, b5]) rfl
            (valS_flat hlt hr (ha.trans hb) (by rw [HP.out]; rfl) (fun y k' hy => by rw [HP.out] at hy; cases hy; exact ⟨rfl, rfl⟩) [.int .i64 1, .int .i64 0, .int .i64 0, .string ⟨#[]⟩, .slice none 0 0, .slice none 0 0])
        | false =>
          go_upto_region 9 with (go_at_call 149; refine (takes_no _ r t i tFalse hr (by decide) hcf).mono ?_; rintro e wk ⟨rfl, hrk, htk⟩)
          replace hr := hrk
          replace hb := hb.trans htk
          clear hrk htk
          by_cases hc34 : byI t i = 34
          · go_upto_region 10 with (go_at_call 149; refine (take1_yes _ r t i 34 hr (by decide) hc34).mono ?_; rintro e wk ⟨rfl, hrk, htk⟩)
            replace hr := hrk
            replace hb := hb.trans htk
            clear hrk htk
            have HP : Hid (pValB (L t i) (M t i) t i = (pQuo t i).map fun p => (flat 3 0 0 p.1, p.2)) := Lib.hid (by exact pv_34 hc34)
            go_wp2_with (go_at_call 150; refine (squoted_any _ r t (i + 1) hr).mono ?_; rintro e w3 ⟨s, j, rfl, hr3, ht3, hval⟩; have hb3 := hb.trans ht3; obtain ⟨b0, b1, b2, b3, b4, b5, bf, bz⟩ := boxOf hb3 hne)
            exact bodyPost_ret (v := .agg #[.int .i64 3, .int .i64 0, .int .i64 0, .string s, .slice none 0 0, .slice none 0 0]) (by simp [results, Tryz.results145, go_sem, b0, b1, b2, b3, b4, b5]) rfl
              (valS_flat hlt hr3 (ha.trans hb3) (by rw [HP.out]; unfold pQuo; cases quo t (i + 1) [] <;> rfl) (fun y k' hy => by rw [HP.out] at hy; exact map_pair (fun s => flat 3 0 0 s) (p := pQuo t i) hval y k' hy) [.int .i64 3, .int .i64 0, .int .i64 0, .string s, .slice none 0 0, .slice none 0 0])
          · go_upto_region 11 with (go_at_call 149; refine (take1_no _ r t i 34 hr (by decide) hc34).mono ?_; rintro e wk ⟨rfl, hrk, htk⟩)
            replace hr := hrk
            replace hb := hb.trans htk
            clear hrk htk
            by_cases hc64 : byI t i = 64
            · go_upto_region 12 with (go_at_call 149; refine (take1_yes _ r t i 64 hr (by decide) hc64).mono ?_; rintro e wk ⟨rfl, hrk, htk⟩)
              replace hr := hrk
              replace hb := hb.trans htk
              clear hrk htk
              have HP : Hid (pValB (L t i) (M t i) t i = (pDate t i).map fun p => (flat 4 p.1 0 e0, p.2)) := Lib.hid (by exact pv_64 hc64)
              go_wp2_with (go_at_call 151; refine (sdate_any _ r t i hr).mono ?_; rintro e w3 ⟨vv, x, j, rfl, hVS, hr3, ht3, hval⟩; obtain ⟨k', n', m', s', a1, l1, c1', a2, l2, c2', g, rfl, hg, hEV⟩ := hVS.lits; have hz0 := hb.size; have hb3 := hb.trans ht3; obtain ⟨b0, b1, b2, b3, b4, b5, bf, bz⟩ := boxOf hb3 hne)
              exact bodyPost_ret (v := .agg #[.int .i64 k', .int .i64 n', .int .i64 m', .string s', .slice a1 l1 c1', .slice a2 l2 c2']) (by simp [results, Tryz.results145, go_sem, b0, b1, b2, b3, b4, b5]) rfl
                (valS_pass hlt (by simpa using hz0) hEV hg hr3 (ha.trans hb) ht3 (by rw [HP.out]) (fun y k hy => by rw [HP.out] at hy; exact hval y k hy))
            · go_upto_region 13 with (go_at_call 149; refine (take1_no _ r t i 64 hr (by decide) hc64).mono ?_; rintro e wk ⟨rfl, hrk, htk⟩)
              replace hr := hrk
              replace hb := hb.trans htk
              clear hrk htk
              by_cases hc40 : byI t i = 40
              · go_upto_region 14 with (go_at_call 149; refine (take1_yes _ r t i 40 hr (by decide) hc40).mono ?_; rintro e wk ⟨rfl, hrk, htk⟩)
                replace hr := hrk
                replace hb := hb.trans htk
                clear hrk htk
                go_upto_region 15 with (go_at_call 152; refine (snum_any _ r t _ false hr).mono ?_; rintro e wk ⟨n1, rfl, hrk, htk, hv1⟩; have q2 := hrk.c2)
                replace hr := hrk
                replace hb := hb.trans htk
                clear hrk htk
                rw [Bool.false_or] at hr q2
                cases hp1' : pNum t (i + 1) with
                | none =>
                  have HP : Hid (pValB (L t i) (M t i) t i = none) := Lib.hid (by rw [pv_40 hc40]; unfold pPoint; rw [hp1'])
                  rw [hp1'] at hr q2
                  simp only [Option.isNone_none] at hr q2
                  have q3 := hr.f2
                  go_upto_region 16 with fail
                  replace hb := hb.trans (To.set r _ 2 (.bool true))
                  replace hr := hr.flag true
                  clear q2 q3
                  go_upto_region 17 with (go_at_call 152; refine (snum_any _ r t _ true hr).mono ?_; rintro e wk ⟨n2, rfl, hrk, htk, hv2⟩; have q2 := hrk.c2)
                  replace hr := hrk
                  replace hb := hb.trans htk
                  clear hrk htk
                  rw [Bool.true_or] at hr q2
                  go_wp2_with (go_at_call 148; refine (fail_any _ r t _ _ hr).mono ?_; rintro e wf ⟨he, hrf, htf⟩; unfold bad6 at he; subst he; replace hb := hb.trans htf; obtain ⟨b0, b1, b2, b3, b4, b5, bf, bz⟩ := boxOf hb hne)
                  exact bodyPost_ret (v := .agg #[.int .i64 (-1), .int .i64 0, .int .i64 0, .string ⟨#[]⟩, .slice none 0 0, .slice none 0 0]) (by simp [results, Tryz.results145, go_sem, b0, b1, b2, b3, b4, b5]) rfl
                    (valS_flat hlt hrf (ha.trans hb) (by rw [HP.out]; rfl) (fun y k' hy => by rw [HP.out] at hy; cases hy) [.int .i64 (-1), .int .i64 0, .int .i64 0, .string ⟨#[]⟩, .slice none 0 0, .slice none 0 0])
                | some v1 =>
                  have hp1 : pNum t (i + 1) = some n1 := by rw [hp1', hv1 v1 hp1']
                  rw [hp1'] at hr q2
                  simp only [Option.isNone_some] at hr q2
                  clear hp1' hv1
                  by_cases h32 : byI t (numEnd t (i + 1)) = 32
                  · go_upto_region 16 with (go_at_call 149; refine (take1_yes _ r t _ 32 hr (by decide) h32).mono ?_; rintro e wk ⟨rfl, hrk, htk⟩; have q4 := hrk.c2; have q5 := hrk.f2)
                    replace hb := (hb.trans htk).trans (To.set r _ 2 (.bool false))
                    replace hr := hrk.flag false
                    clear hrk htk q2 q4 q5
                    go_upto_region 17 with (go_at_call 152; refine (snum_any _ r t _ false hr).mono ?_; rintro e wk ⟨n2, rfl, hrk, htk, hv2⟩; have q2 := hrk.c2)
                    replace hr := hrk
                    replace hb := hb.trans htk
                    clear hrk htk
                    rw [Bool.false_or] at hr q2
                    cases hp2' : pNum t (numEnd t (i + 1) + 1) with
                    | none =>
                      have HP : Hid (pValB (L t i) (M t i) t i = none) := Lib.hid (by rw [pv_40 hc40]; unfold pPoint; rw [hp1]; simp only []; rw [if_pos h32]; unfold pPoint2; rw [hp2'])
                      rw [hp2'] at hr q2
                      simp only [Option.isNone_none] at hr q2
                      go_wp2_with (go_at_call 148; refine (fail_any _ r t _ _ hr).mono ?_; rintro e wf ⟨he, hrf, htf⟩; unfold bad6 at he; subst he; replace hb := hb.trans htf; obtain ⟨b0, b1, b2, b3, b4, b5, bf, bz⟩ := boxOf hb hne)
                      exact bodyPost_ret (v := .agg #[.int .i64 (-1), .int .i64 0, .int .i64 0, .string ⟨#[]⟩, .slice none 0 0, .slice none 0 0]) (by simp [results, Tryz.results145, go_sem, b0, b1, b2, b3, b4, b5]) rfl
                        (valS_flat hlt hrf (ha.trans hb) (by rw [HP.out]; rfl) (fun y k' hy => by rw [HP.out] at hy; cases hy) [.int .i64 (-1), .int .i64 0, .int .i64 0, .string ⟨#[]⟩, .slice none 0 0, .slice none 0 0])
                    | some v2 =>
                      have hp2 : pNum t (numEnd t (i + 1) + 1) = some n2 := by rw [hp2', hv2 v2 hp2']
                      rw [hp2'] at hr q2
                      simp only [Option.isNone_some] at hr q2
                      clear hp2' hv2
                      by_cases h41 : byI t (numEnd t (numEnd t (i + 1) + 1)) = 41
                      · by_cases r1 : n1 < -1000000
                        · have HP : Hid (pValB (L t i) (M t i) t i = none) := Lib.hid (by rw [pv_40 hc40]; exact pPoint_rng hp1 h32 hp2 h41 (fun q => by have := (mil_iff.1 q.1).1; omega))
                          have g1 : decide (n1 < -1000000) = true := decide_eq_true r1
                          go_upto_region 18 with (go_at_call 149; refine (take1_yes _ r t _ 41 hr (by decide) h41).mono ?_; rintro e wk ⟨rfl, hrk, htk⟩)
                          replace hr := hrk
                          replace hb := hb.trans htk
                          clear hrk htk
                          go_wp2_with (go_at_call 148; refine (fail_any _ r t _ _ hr).mono ?_; rintro e wf ⟨he, hrf, htf⟩; unfold bad6 at he; subst he; replace hb := hb.trans htf; obtain ⟨b0, b1, b2, b3, b4, b5, bf, bz⟩ := boxOf hb hne)
                          exact bodyPost_ret (v := .agg #[.int .i64 (-1), .int .i64 0, .int .i64 0, .string ⟨#[]⟩, .slice none 0 0, .slice none 0 0]) (by simp [results, Tryz.results145, go_sem, b0, b1, b2, b3, b4, b5]) rfl
                            (valS_flat hlt hrf (ha.trans hb) (by rw [HP.out]; rfl) (fun y k' hy => by rw [HP.out] at hy; cases hy) [.int .i64 (-1), .int .i64 0, .int .i64 0, .string ⟨#[]⟩, .slice none 0 0, .slice none 0 0])
                        have g1 : decide (n1 < -1000000) = false := decide_eq_false r1
                        by_cases r2 : 1000000 < n1
                        · have HP : Hid (pValB (L t i) (M t i) t i = none) := Lib.hid (by rw [pv_40 hc40]; exact pPoint_rng hp1 h32 hp2 h41 (fun q => by have := (mil_iff.1 q.1).2; omega))
                          have g2 : decide (1000000 < n1) = true := decide_eq_true r2
                          go_upto_region 18 with (go_at_call 149; refine (take1_yes _ r t _ 41 hr (by decide) h41).mono ?_; rintro e wk ⟨rfl, hrk, htk⟩)
                          replace hr := hrk
                          replace hb := hb.trans htk
                          clear hrk htk
                          go_wp2_with (go_at_call 148; refine (fail_any _ r t _ _ hr).mono ?_; rintro e wf ⟨he, hrf, htf⟩; unfold bad6 at he; subst he; replace hb := hb.trans htf; obtain ⟨b0, b1, b2, b3, b4, b5, bf, bz⟩ := boxOf hb hne)
                          exact bodyPost_ret (v := .agg #[.int .i64 (-1), .int .i64 0, .int .i64 0, .string ⟨#[]⟩, .slice none 0 0, .slice none 0 0]) (by simp [results, Tryz.results145, go_sem, b0, b1, b2, b3, b4, b5]) rfl
                            (valS_flat hlt hrf (ha.trans hb) (by rw [HP.out]; rfl) (fun y k' hy => by rw [HP.out] at hy; cases hy) [.int .i64 (-1), .int .i64 0, .int .i64 0, .string ⟨#[]⟩, .slice none 0 0, .slice none 0 0])
                        have g2 : decide (1000000 < n1) = false := decide_eq_false r2
                        by_cases r3 : n2 < -1000000
                        · have HP : Hid (pValB (L t i) (M t i) t i = none) := Lib.hid (by rw [pv_40 hc40]; exact pPoint_rng hp1 h32 hp2 h41 (fun q => by have := (mil_iff.1 q.2).1; omega))
                          have g3 : decide (n2 < -1000000) = true := decide_eq_true r3
                          go_upto_region 18 with (go_at_call 149; refine (take1_yes _ r t _ 41 hr (by decide) h41).mono ?_; rintro e wk ⟨rfl, hrk, htk⟩)
                          replace hr := hrk
                          replace hb := hb.trans htk
                          clear hrk htk
                          go_wp2_with (go_at_call 148; refine (fail_any _ r t _ _ hr).mono ?_; rintro e wf ⟨he, hrf, htf⟩; unfold bad6 at he; subst he; replace hb := hb.trans htf; obtain ⟨b0, b1, b2, b3, b4, b5, bf, bz⟩ := boxOf hb hne)
                          exact bodyPost_ret (v := .agg #[.int .i64 (-1), .int .i64 0, .int .i64 0, .string ⟨#[]⟩, .slice none 0 0, .slice none 0 0]) (by simp [results, Tryz.results145, go_sem, b0, b1, b2, b3, b4, b5]) rfl
                            (valS_flat hlt hrf (ha.trans hb) (by rw [HP.out]; rfl) (fun y k' hy => by rw [HP.out] at hy; cases hy) [.int .i64 (-1), .int .i64 0, .int .i64 0, .string ⟨#[]⟩, .slice none 0 0, .slice none 0 0])
                        have g3 : decide (n2 < -1000000) = false := decide_eq_false r3
                        by_cases r4 : 1000000 < n2
                        · have HP : Hid (pValB (L t i) (M t i) t i = none) := Lib.hid (by rw [pv_40 hc40]; exact pPoint_rng hp1 h32 hp2 h41 (fun q => by have := (mil_iff.1 q.2).2; omega))
                          have g4 : decide (1000000 < n2) = true := decide_eq_true r4
                          go_upto_region 18 with (go_at_call 149; refine (take1_yes _ r t _ 41 hr (by decide) h41).mono ?_; rintro e wk ⟨rfl, hrk, htk⟩)
                          replace hr := hrk
                          replace hb := hb.trans htk
                          clear hrk htk
                          go_wp2_with (go_at_call 148; refine (fail_any _ r t _ _ hr).mono ?_; rintro e wf ⟨he, hrf, htf⟩; unfold bad6 at he; subst he; replace hb := hb.trans htf; obtain ⟨b0, b1, b2, b3, b4, b5, bf, bz⟩ := boxOf hb hne)
                          exact bodyPost_ret (v := .agg #[.int .i64 (-1), .int .i64 0, .int .i64 0, .string ⟨#[]⟩, .slice none 0 0, .slice none 0 0]) (by simp [results, Tryz.results145, go_sem, b0, b1, b2, b3, b4, b5]) rfl
                            (valS_flat hlt hrf (ha.trans hb) (by rw [HP.out]; rfl) (fun y k' hy => by rw [HP.out] at hy; cases hy) [.int .i64 (-1), .int .i64 0, .int .i64 0, .string ⟨#[]⟩, .slice none 0 0, .slice none 0 0])
                        have g4 : decide (1000000 < n2) = false := decide_eq_false r4
                        have HP : Hid (pValB (L t i) (M t i) t i = some (flat 5 n1 n2 e0, numEnd t (numEnd t (i + 1) + 1) + 1)) := Lib.hid (by rw [pv_40 hc40]; exact pPoint_ok hp1 h32 hp2 h41 (mil_yes r1 r2) (mil_yes r3 r4))
                        go_upto_region 19 with (go_at_call 149; refine (take1_yes _ r t _ 41 hr (by decide) h41).mono ?_; rintro e wk ⟨rfl, hrk, htk⟩)
                        replace hr := hrk
                        replace hb := hb.trans htk
                        clear hrk htk
                        obtain ⟨b0, b1, b2, b3, b4, b5, bf, bz⟩ := boxOf hb hne
                        go_wp2_with fail
                        exact bodyPost_ret (v := .agg #[.int .i64 5, .int .i64 n1, .int .i64 n2, .string ⟨#[]⟩, .slice none 0 0, .slice none 0 0]) (by simp [results, Tryz.results145, go_sem, b0, b1, b2, b3, b4, b5]) rfl
                          (valS_flat hlt hr (ha.trans hb) (by rw [HP.out]; rfl) (fun y k' hy => by rw [HP.out] at hy; cases hy; exact ⟨rfl, rfl⟩) [.int .i64 5, .int .i64 n1, .int .i64 n2, .string ⟨#[]⟩, .slice none 0 0, .slice none 0 0])
                      · have HP : Hid (pValB (L t i) (M t i) t i = none) := Lib.hid (by rw [pv_40 hc40]; unfold pPoint; rw [hp1]; simp only []; rw [if_pos h32]; unfold pPoint2; rw [hp2]; simp only []; rw [if_neg (fun q => h41 q.1)])
                        go_upto_region 18 with (go_at_call 149; refine (take1_no _ r t _ 41 hr (by decide) h41).mono ?_; rintro e wk ⟨rfl, hrk, htk⟩)
                        replace hr := hrk
                        replace hb := hb.trans htk
                        clear hrk htk
                        go_wp2_with (go_at_call 148; refine (fail_any _ r t _ _ hr).mono ?_; rintro e wf ⟨he, hrf, htf⟩; unfold bad6 at he; subst he; replace hb := hb.trans htf; obtain ⟨b0, b1, b2, b3, b4, b5, bf, bz⟩ := boxOf hb hne)
                        exact bodyPost_ret (v := .agg #[.int .i64 (-1), .int .i64 0, .int .i64 0, .string ⟨#[]⟩, .slice none 0 0, .slice none 0 0]) (by simp [results, Tryz.results145, go_sem, b0, b1, b2, b3, b4, b5]) rfl
                          (valS_flat hlt hrf (ha.trans hb) (by rw [HP.out]; rfl) (fun y k' hy => by rw [HP.out] at hy; cases hy) [.int .i64 (-1), .int .i64 0, .int .i64 0, .string ⟨#[]⟩, .slice none 0 0, .slice none 0 0])
                  · have HP : Hid (pValB (L t i) (M t i) t i = none) := Lib.hid (by rw [pv_40 hc40]; unfold pPoint; rw [hp1]; simp only []; rw [if_neg h32])
                    go_upto_region 16 with (go_at_call 149; refine (take1_no _ r t _ 32 hr (by decide) h32).mono ?_; rintro e wk ⟨rfl, hrk, htk⟩; have q4 := hrk.c2; have q5 := hrk.f2)
                    replace hb := (hb.trans htk).trans (To.set r _ 2 (.bool true))
                    replace hr := hrk.flag true
                    clear hrk htk q2 q4 q5
                    go_upto_region 17 with (go_at_call 152; refine (snum_any _ r t _ true hr).mono ?_; rintro e wk ⟨n2, rfl, hrk, htk, hv2⟩; have q2 := hrk.c2)
                    replace hr := hrk
                    replace hb := hb.trans htk
                    clear hrk htk
                    rw [Bool.true_or] at hr q2
                    go_wp2_with (go_at_call 148; refine (fail_any _ r t _ _ hr).mono ?_; rintro e wf ⟨he, hrf, htf⟩; unfold bad6 at he; subst he; replace hb := hb.trans htf; obtain ⟨b0, b1, b2, b3, b4, b5, bf, bz⟩ := boxOf hb hne)
                    exact bodyPost_ret (v := .agg #[.int .i64 (-1), .int .i64 0, .int .i64 0, .string ⟨#[]⟩, .slice none 0 0, .slice none 0 0]) (by simp [results, Tryz.results145, go_sem, b0, b1, b2, b3, b4, b5]) rfl
                      (valS_flat hlt hrf (ha.trans hb) (by rw [HP.out]; rfl) (fun y k' hy => by rw [HP.out] at hy; cases hy) [.int .i64 (-1), .int .i64 0, .int .i64 0, .string ⟨#[]⟩, .slice none 0 0, .slice none 0 0])
              · go_upto_region 20 with (go_at_call 149; refine (take1_no _ r t i 40 hr (by decide) hc40).mono ?_; rintro e wk ⟨rfl, hrk, htk⟩)
                replace hr := hrk
                replace hb := hb.trans htk
                clear hrk htk
                by_cases hc110 : byI t i = 110
                · go_upto_region 21 with (go_at_call 149; refine (take1_yes _ r t i 110 hr (by decide) hc110).mono ?_; rintro e wk ⟨rfl, hrk, htk⟩)
                  replace hr := hrk
                  replace hb := hb.trans htk
                  clear hrk htk
                  have HP : Hid (pValB (L t i) (M t i) t i = pThg 8 t (i + 1)) := Lib.hid (by exact pv_110 hi hc110 hcn)
                  go_wp2_with (go_at_call 153; refine (sthing_any _ r t (i + 1) 8 hr).mono ?_; rintro e w3 ⟨vv, x, j, rfl, hVS, hr3, ht3, hval⟩; obtain ⟨k', n', m', s', a1, l1, c1', a2, l2, c2', g, rfl, hg, hEV⟩ := hVS.lits; have hz0 := hb.size; have hb3 := hb.trans ht3; obtain ⟨b0, b1, b2, b3, b4, b5, bf, bz⟩ := boxOf hb3 hne)
                  exact bodyPost_ret (v := .agg #[.int .i64 k', .int .i64 n', .int .i64 m', .string s', .slice a1 l1 c1', .slice a2 l2 c2']) (by simp [results, Tryz.results145, go_sem, b0, b1, b2, b3, b4, b5]) rfl
                    (valS_pass hlt (by simpa using hz0) hEV hg hr3 (ha.trans hb) ht3 (by rw [HP.out]) (fun y k hy => by rw [HP.out] at hy; exact hval y k hy))
                · go_upto_region 22 with (go_at_call 149; refine (take1_no _ r t i 110 hr (by decide) hc110).mono ?_; rintro e wk ⟨rfl, hrk, htk⟩)
                  replace hr := hrk
                  replace hb := hb.trans htk
                  clear hrk htk
                  by_cases hc101 : byI t i = 101
                  · go_upto_region 23 with (go_at_call 149; refine (take1_yes _ r t i 101 hr (by decide) hc101).mono ?_; rintro e wk ⟨rfl, hrk, htk⟩)
                    replace hr := hrk
                    replace hb := hb.trans htk
                    clear hrk htk
                    have HP : Hid (pValB (L t i) (M t i) t i = pThg 9 t (i + 1)) := Lib.hid (by exact pv_101 hi hc101)
                    go_wp2_with (go_at_call 153; refine (sthing_any _ r t (i + 1) 9 hr).mono ?_; rintro e w3 ⟨vv, x, j, rfl, hVS, hr3, ht3, hval⟩; obtain ⟨k', n', m', s', a1, l1, c1', a2, l2, c2', g, rfl, hg, hEV⟩ := hVS.lits; have hz0 := hb.size; have hb3 := hb.trans ht3; obtain ⟨b0, b1, b2, b3, b4, b5, bf, bz⟩ := boxOf hb3 hne)
                    exact bodyPost_ret (v := .agg #[.int .i64 k', .int .i64 n', .int .i64 m', .string s', .slice a1 l1 c1', .slice a2 l2 c2']) (by simp [results, Tryz.results145, go_sem, b0, b1, b2, b3, b4, b5]) rfl
                      (valS_pass hlt (by simpa using hz0) hEV hg hr3 (ha.trans hb) ht3 (by rw [HP.out]) (fun y k hy => by rw [HP.out] at hy; exact hval y k hy))
                  · go_upto_region 24 with (go_at_call 149; refine (take1_no _ r t i 101 hr (by decide) hc101).mono ?_; rintro e wk ⟨rfl, hrk, htk⟩)
                    replace hr := hrk
                    replace hb := hb.trans htk
                    clear hrk htk
                    by_cases hc60 : byI t i = 60
                    · go_upto_region 25 with (go_at_call 149; refine (take1_yes _ r t i 60 hr (by decide) hc60).mono ?_; rintro e wk ⟨rfl, hrk, htk⟩)
                      replace hr := hrk
                      replace hb := hb.trans htk
                      clear hrk htk
                      have HP : Hid (pValB (L t i) (M t i) t i = pPath t i) := Lib.hid (by exact pv_60 hc60)
                      go_wp2_with (go_at_call 154; refine (spath_any _ r t i hr).mono ?_; rintro e w3 ⟨vv, x, j, rfl, hVS, hr3, ht3, hval⟩; obtain ⟨k', n', m', s', a1, l1, c1', a2, l2, c2', g, rfl, hg, hEV⟩ := hVS.lits; have hz0 := hb.size; have hb3 := hb.trans ht3; obtain ⟨b0, b1, b2, b3, b4, b5, bf, bz⟩ := boxOf hb3 hne)
                      exact bodyPost_ret (v := .agg #[.int .i64 k', .int .i64 n', .int .i64 m', .string s', .slice a1 l1 c1', .slice a2 l2 c2']) (by simp [results, Tryz.results145, go_sem, b0, b1, b2, b3, b4, b5]) rfl
                        (valS_pass hlt (by simpa using hz0) hEV hg hr3 (ha.trans hb) ht3 (by rw [HP.out]) (fun y k hy => by rw [HP.out] at hy; exact hval y k hy))
                    · go_upto_region 26 with (go_at_call 149; refine (take1_no _ r t i 60 hr (by decide) hc60).mono ?_; rintro e wk ⟨rfl, hrk, htk⟩)
                      replace hr := hrk
                      replace hb := hb.trans htk
                      clear hrk htk
                      by_cases hd5 : d < 5
                      · have hdl : decide (d < 5) = true := decide_eq_true hd5
                        by_cases hc91 : byI t i = 91
                        · go_upto_region 27 with (go_at_call 149; refine (take1_yes _ r t i 91 hr (by decide) hc91).mono ?_; rintro e wk ⟨rfl, hrk, htk⟩)
                          replace hr := hrk
                          replace hb := hb.trans htk
                          clear hrk htk
                          have HP : Hid (pValB (L t i) (M t i) t i = L t i) := Lib.hid (by exact pv_91 hc91)
                          go_wp2_with (go_at_call 155; refine (hL hd5 _ r t i hr).mono ?_; rintro e w3 ⟨vv, x, j, rfl, hVS, hr3, ht3, hval⟩; obtain ⟨k', n', m', s', a1, l1, c1', a2, l2, c2', g, rfl, hg, hEV⟩ := hVS.lits; have hz0 := hb.size; have hb3 := hb.trans ht3; obtain ⟨b0, b1, b2, b3, b4, b5, bf, bz⟩ := boxOf hb3 hne)
                          exact bodyPost_ret (v := .agg #[.int .i64 k', .int .i64 n', .int .i64 m', .string s', .slice a1 l1 c1', .slice a2 l2 c2']) (by simp [results, Tryz.results145, go_sem, b0, b1, b2, b3, b4, b5]) rfl
                            (valS_pass hlt (by simpa using hz0) hEV hg hr3 (ha.trans hb) ht3 (by rw [HP.out]) (fun y k hy => by rw [HP.out] at hy; exact hval y k hy))
                        · go_upto_region 28 with (go_at_call 149; refine (take1_no _ r t i 91 hr (by decide) hc91).mono ?_; rintro e wk ⟨rfl, hrk, htk⟩)
                          replace hr := hrk
                          replace hb := hb.trans htk
                          clear hrk htk
                          by_cases hc123 : byI t i = 123
                          · go_upto_region 29 with (go_at_call 149; refine (take1_yes _ r t i 123 hr (by decide) hc123).mono ?_; rintro e wk ⟨rfl, hrk, htk⟩)
                            replace hr := hrk
                            replace hb := hb.trans htk
                            clear hrk htk
                            have HP : Hid (pValB (L t i) (M t i) t i = M t i) := Lib.hid (by exact pv_123 hc123)
                            go_wp2_with (go_at_call 156; refine (hM hd5 _ r t i hr).mono ?_; rintro e w3 ⟨vv, x, j, rfl, hVS, hr3, ht3, hval⟩; obtain ⟨k', n', m', s', a1, l1, c1', a2, l2, c2', g, rfl, hg, hEV⟩ := hVS.lits; have hz0 := hb.size; have hb3 := hb.trans ht3; obtain ⟨b0, b1, b2, b3, b4, b5, bf, bz⟩ := boxOf hb3 hne)
                            exact bodyPost_ret (v := .agg #[.int .i64 k', .int .i64 n', .int .i64 m', .string s', .slice a1 l1 c1', .slice a2 l2 c2']) (by simp [results, Tryz.results145, go_sem, b0, b1, b2, b3, b4, b5]) rfl
                              (valS_pass hlt (by simpa using hz0) hEV hg hr3 (ha.trans hb) ht3 (by rw [HP.out]) (fun y k hy => by rw [HP.out] at hy; exact hval y k hy))
                          · go_upto_region 30 with (go_at_call 149; refine (take1_no _ r t i 123 hr (by decide) hc123).mono ?_; rintro e wk ⟨rfl, hrk, htk⟩)
                            replace hr := hrk
                            replace hb := hb.trans htk
                            clear hrk htk
                            have hnL : byI t i = 91 → L t i = none := fun q => absurd q hc91
                            have hnM : byI t i = 123 → M t i = none := fun q => absurd q hc123
                            have HP : Hid (pValB (L t i) (M t i) t i = (pNum t i).map fun v => (flat 2 v 0 e0, numEnd t i)) := Lib.hid (by exact pv_num hi hc34 hc64 hc40 hc110 hc101 hc60 hcn hct hcf hnL hnM)
                            go_wp2_with (go_at_call 152; refine (snum_any _ r t i false hr).mono ?_; rintro e wk ⟨n1, rfl, hrk, htk, hv1⟩; rw [Bool.false_or] at hrk; replace hb := hb.trans htk; obtain ⟨b0, b1, b2, b3, b4, b5, bf, bz⟩ := boxOf hb hne)
                            exact bodyPost_ret (v := .agg #[.int .i64 2, .int .i64 n1, .int .i64 0, .string ⟨#[]⟩, .slice none 0 0, .slice none 0 0]) (by simp [results, Tryz.results145, go_sem, b0, b1, b2, b3, b4, b5]) rfl
                              (valS_flat hlt hrk (ha.trans hb) (by rw [HP.out]; cases pNum t i <;> rfl) (fun y k' hy => by
                                rw [HP.out] at hy
                                cases hq : pNum t i with
                                | none => rw [hq] at hy; cases hy
                                | some v => rw [hq] at hy; cases hy; rw [hv1 v hq]; exact ⟨rfl, rfl⟩) [.int .i64 2, .int .i64 n1, .int .i64 0, .string ⟨#[]⟩, .slice none 0 0, .slice none 0 0])
                      · have hdl : decide (d < 5) = false := decide_eq_false hd5
                        have hnL : byI t i = 91 → L t i = none := fun _ => (HN.out (by omega) t i).1
                        have hnM : byI t i = 123 → M t i = none := fun _ => (HN.out (by omega) t i).2
                        go_upto_region 30 with fail
                        have HP : Hid (pValB (L t i) (M t i) t i = (pNum t i).map fun v => (flat 2 v 0 e0, numEnd t i)) := Lib.hid (by exact pv_num hi hc34 hc64 hc40 hc110 hc101 hc60 hcn hct hcf hnL hnM)
                        go_wp2_with (go_at_call 152; refine (snum_any _ r t i false hr).mono ?_; rintro e wk ⟨n1, rfl, hrk, htk, hv1⟩; rw [Bool.false_or] at hrk; replace hb := hb.trans htk; obtain ⟨b0, b1, b2, b3, b4, b5, bf, bz⟩ := boxOf hb hne)
                        exact bodyPost_ret (v := .agg #[.int .i64 2, .int .i64 n1, .int .i64 0, .string ⟨#[]⟩, .slice none 0 0, .slice none 0 0]) (by simp [results, Tryz.results145, go_sem, b0, b1, b2, b3, b4, b5]) rfl
                          (valS_flat hlt hrk (ha.trans hb) (by rw [HP.out]; cases pNum t i <;> rfl) (fun y k' hy => by
                            rw [HP.out] at hy
                            cases hq : pNum t i with
                            | none => rw [hq] at hy; cases hy
                            | some v => rw [hq] at hy; cases hy; rw [hv1 v hq]; exact ⟨rfl, rfl⟩) [.int .i64 2, .int .i64 n1, .int .i64 0, .string ⟨#[]⟩, .slice none 0 0, .slice none 0 0])

  · have HP : Hid (pValB (L t i) (M t i) t i = none) := Lib.hid (pv_end hlen)
    have z1 : decide ((t.size : Int) ≤ i) = true := decide_eq_true (by omega)
    have z2 : decide (t.size ≤ i) = true := decide_eq_true (by omega)
    go_enter Tryz.func145, Tryz.ntmps145
    go_upto_region 1 with fail
    go_big_quiet (fail)
    replace hr := hr.below (drewN_below _ nq)
    replace hb := hb.trans (To.of (drewN_below _ nq))
    go_upto_region 2 with fail
    clear k0 k1 k2
    generalize (w.alloc (boxS 0)).drewN nq = wk at hr hb ⊢
    go_wp2_with (go_at_call 148; refine (fail_any _ r t _ _ hr).mono ?_; rintro e wf ⟨he, hrf, htf⟩; unfold bad6 at he; subst he; replace hb := hb.trans htf; obtain ⟨b0, b1, b2, b3, b4, b5, bf, bz⟩ := boxOf hb hne)
    exact bodyPost_ret (v := .agg #[.int .i64 (-1), .int .i64 0, .int .i64 0, .string ⟨#[]⟩, .slice none 0 0, .slice none 0 0]) (by simp [results, Tryz.results145, go_sem, b0, b1, b2, b3, b4, b5]) rfl
      (valS_flat hlt hrf (ha.trans hb) (by rw [HP.out]; rfl) (fun y k' hy => by rw [HP.out] at hy; cases hy) [.int .i64 (-1), .int .i64 0, .int .i64 0, .string ⟨#[]⟩, .slice none 0 0, .slice none 0 0])

end Go.Proofs.YtllhimeffkefiaaGreatDoor
