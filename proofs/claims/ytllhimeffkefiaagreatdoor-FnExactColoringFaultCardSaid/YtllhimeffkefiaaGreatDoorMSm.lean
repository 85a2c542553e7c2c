/- Texts of one proof, joined in their order: each bears its own word of what it holds and on what condition. -/
import Derived.Test.YtllhimeffkefiaaGreatDoorMSl
set_option linter.unusedVariables false
set_option linter.unusedSimpArgs false
/- The specification's reading of paths. Condition: texts of at most 2^20 bytes. -/
set_option linter.unusedVariables false
set_option linter.unusedSimpArgs false
namespace Go.Proofs.YtllhimeffkefiaaGreatDoor
open Go.RowKit Go.Sort

theorem pId_eq {t : ByteArray} {j : Nat} (hj : j ≤ t.size) : pId t j = (pNum t j).filter okId := by
  unfold pId
  split
  · rfl
  · rename_i hd
    cases hp : pNum t j with
    | none => rfl
    | some v =>
      obtain ⟨_, hlt, _, hs⟩ := pNum_val hj hp
      have hv : numS t j = v := (pNum_val hj hp).1
      rw [hv] at hs
      have hbd := numAt_bd hj
      have heb := run_bd digB t hbd.2
      have he : numEnd t j = run digB t (numAt t j) := rfl
      by_cases hm : byI t j = 45
      · have hneg : v < 0 := by
          by_cases h : v < 0
          · exact h
          · exfalso
            have hj2 : j < t.size := by omega
            have e1 : (t.extract j (numEnd t j)).data.toList = Lib.itoa v := by rw [← hs]; simp [decS]
            rw [ext_cons hlt (by omega)] at e1
            unfold Lib.itoa at e1
            rw [if_neg h] at e1
            obtain ⟨c, r, hc, c0, c1⟩ := dec_head (v.toNat + 1) v.toNat (by omega)
            rw [hc] at e1
            injection e1 with e2 _
            rw [byI_eq hj2, e2] at hm
            omega
        have : okId v = false := by unfold okId; simp; omega
        simp [Option.filter, this]
      · exfalso
        have ha : numAt t j = j := by unfold numAt; rw [if_neg hm]
        have : run digB t j = j := run_stop (fun q => hd q.2)
        rw [he, ha, this] at hlt
        omega
theorem pThing_8 {t : ByteArray} {k : Nat} (hk : k ≤ t.size) (h : byI t k = 110) : pThing t k = pThg 8 t (k + 1) := by
  have := byI_pos (by decide) h
  unfold pThing pThg
  rw [if_neg (by rw [h]; decide), if_pos h, pId_eq (by omega)]
theorem pThing_9 {t : ByteArray} {k : Nat} (hk : k ≤ t.size) (h : byI t k = 101) : pThing t k = pThg 9 t (k + 1) := by
  have := byI_pos (by decide) h
  unfold pThing pThg
  rw [if_pos h, pId_eq (by omega)]
theorem pThing_not {t : ByteArray} {k : Nat} (K c : Int) (hKc : (K = 8 ∧ c = 110) ∨ (K = 9 ∧ c = 101)) (h : ¬ byI t k = c) (F : Val → Nat → Option (Val × Nat)) :
    (match pThing t k with
    | none => none
    | some (v, l) => if v.kind ≠ K then none else F v l) = none := by
  unfold pThing
  by_cases h1 : byI t k = 101
  · rw [if_pos h1]
    rcases hKc with ⟨rfl, rfl⟩ | ⟨rfl, rfl⟩
    · cases hp : pId t (k + 1) with
      | none => rfl
      | some n => rfl
    · exact absurd h1 h
  · rw [if_neg h1]
    by_cases h2 : byI t k = 110
    · rw [if_pos h2]
      rcases hKc with ⟨rfl, rfl⟩ | ⟨rfl, rfl⟩
      · exact absurd h2 h
      · cases hp : pId t (k + 1) with
        | none => rfl
        | some n => rfl
    · rw [if_neg h2]
theorem pThg_kind {K : Int} {t : ByteArray} {k : Nat} {x : Val} {j : Nat} (h : pThg K t k = some (x, j)) : x.kind = K := by
  unfold pThg at h
  cases hp : (pNum t k).filter okId with
  | none => rw [hp] at h; cases h
  | some n => rw [hp] at h; cases h; rfl
theorem pThg_fwd {K : Int} {t : ByteArray} {k : Nat} {x : Val} {j : Nat} (hk : k ≤ t.size) (h : pThg K t k = some (x, j)) : k ≤ j := by
  unfold pThg at h
  cases hp : (pNum t k).filter okId with
  | none => rw [hp] at h; cases h
  | some n => rw [hp] at h; cases h; exact (numEnd_le hk).1
def parW (n : Nat) : Int := if n % 2 = 1 then 9 else 8
theorem parW_snoc (xs : List Val) (x : Val) : parW (xs ++ [x]).length = 17 - parW xs.length := by
  unfold parW
  rw [List.length_append, List.length_singleton]
  split <;> split <;> omega

set_option maxHeartbeats 8000000 in
set_option maxRecDepth 100000 in
theorem spath_any (w : World) (r : Nat) (t : ByteArray) (i : Nat) (h : Sr w r t (i + 1) false) :
    Calls Tryz.prog 154 #[.pointer (some ⟨r, 0, none⟩)] w (ValS r t (pPath t i) w) := by
  have hlt := h.lt
  have hsz := h.sz
  have hne : w.heap.size ≠ r := by omega
  have hne2 : w.heap.size + 1 ≠ r := by omega
  have L0 := Lst.start h 10
  obtain ⟨i0, hi0, hz0, hz1, hz2⟩ := info_parts (show (Tryz.prog.info? 179).map (fun i => (i.zero, i.size, i.bytes)) = some (some (.agg #[.int .i64 0, .int .i64 0, .int .i64 0, .string ⟨#[]⟩, .slice none 0 0, .slice none 0 0]), 6, 88) by kernel_rfl)
  go_enter Tryz.func154, Tryz.ntmps154
  go_wp2
  go_loopw [] (fun wr => ∃ (k : Nat) (xs : List Val) (v : Value), xs.length ≤ k ∧ k ≤ t.size ∧ Hid (pPath t i = pSts t k (parW xs.length) xs) ∧ Lst w r t wr k false 10 (.slice none 0 0) v [] xs) (fun wr => lefS r t wr)
  case atStart => exact ⟨i + 1, [], _, Nat.zero_le _, h.le, Lib.hid rfl, L0⟩
  case round =>
    clear L0
    obtain ⟨k, xs, v, hk1, hk, HR, L⟩ := hrel
    have hsz2 : (t.size : Int) ≤ 1048576 := by omega
    obtain ⟨v1, v2, v3, rfl, HV2⟩ : ∃ v1 v2 v3, v = .slice v1 v2 v3 ∧ Hid (v2 = xs.length) := by
      obtain ⟨⟨v1, v3, e⟩, _⟩ := L.shape (by omega) (by simp)
      exact ⟨_, _, _, e, Lib.hid rfl⟩
    have q2 := L.hr.c2
    have d0 := L.b6.b4
    have hm2 := L.hr.lef
    by_cases hpar : xs.length % 2 = 1
    · have m1 : v2 % 2 = 1 := by rw [HV2.out]; exact hpar
      have m2 : (v2 : Int) % 2 = 1 := by omega
      have m3 : (v2 : Int).tmod 2 = 1 := by rw [Int.tmod_eq_emod_of_nonneg (by omega)]; exact m2
      have HPW : Hid (parW xs.length = 9) := Lib.hid (by unfold parW; rw [if_pos hpar])
      rw [HPW.out] at HR
      by_cases hc : byI t k = 101
      · have HT : Hid (pThing t k = pThg 9 t (k + 1)) := Lib.hid (pThing_9 hk hc)
        have hck := byI_pos (by decide) hc
        go_upto_region 10 with (go_at_call 149; refine (take1_yes _ r t k 101 L.hr (by decide) hc).mono ?_; rintro e w8 ⟨rfl, hr8, ht8⟩; have L8 := L.to ht8 hr8)
        replace L := L8
        clear L8 d0 q2
        have d4 := L.b6.b4
        go_region_law (first
          | (have hb5 : Below w3.heap.size w3 (w3.alloc (.cells #[.int .i64 k', .int .i64 n', .int .i64 m', .string s', .slice a1 l1 c1', .slice a2 l2 c2'] 179)) := (Below.refl _ w3).alloc (Nat.le_refl _) _; have H5 := L3.hh.below hb5; obtain ⟨fs, hfl, ho5, he5⟩ := H5.items; refine step_append_lies _ (by rfl) (.tmp 24) (.tmp 28) 177 (by rfl) (w.heap.size + 2) 179 i0 (.agg #[.int .i64 0, .int .i64 0, .int .i64 0, .string ⟨#[]⟩, .slice none 0 0, .slice none 0 0]) 6 88 Tryz.underlying177 hi0 hz0 hz1 hz2 rfl (by decide) (.slice v1 v2 v3) xs.length (fs.flatMap c6) (by rfl) ho5 ⟨_, 0, none⟩ 1 1 [.int .i64 k', .int .i64 n', .int .i64 m', .string s', .slice a1 l1 c1', .slice a2 l2 c2'] (by rfl) rfl (World.news_of_block (new_block (by simp) _ _)) (hg ▸ EV.one (.inr ⟨rfl, rfl⟩) hEV) (by decide) (by unfold maxLen; omega) (by omega) (by simp <;> omega) _ rfl ?_; intro gg cap w6 hown6 hgrow6 hat6 hlt6; have hgrow6 : World.grownBy _ w6 (Value.slice v1 v2 v3).ownBlock := hgrow6; have hat6 : (Value.slice v1 v2 v3).ownBlock = some gg ∨ gg = _ := hat6; rw [← hg] at hown6; obtain ⟨BB, L6⟩ := Lst.item L3 hb5 hfl ho5 he5 hown6 hgrow6 hat6 hlt6 (Hold.fresh L.drew.hh L.drew.hz hEV hb5); have d4 := BB.b4; have df := BB.bf)
          | (go_simp; go_at_call 153; refine (sthing_any _ r t (k + 1) 9 L.drew.hr).mono ?_; rintro e w3 ⟨vv, x, j, rfl, hVS, hr3, ht3, hval⟩; obtain ⟨k', n', m', s', a1, l1, c1', a2, l2, c2', g, rfl, hg, hEV⟩ := hVS.lits; have L3 := L.drew.to ht3 hr3; have d4 := L3.b6.b4; have hz3 := L3.hz; have d4a := fun o => (L3.below ((Below.refl _ w3).alloc (Nat.le_refl _) o)).b6.b4))

        all_goals clear d4 d4a df BB hown6 hgrow6 hat6
        all_goals generalize w6.setCell ⟨w.heap.size + 1, 4, none⟩ (.slice (some ⟨gg, 0, none⟩) (xs.length + 1) cap) = w7 at L6 ⊢
        all_goals
          cases hv : pThg 9 t (k + 1) with
          | none =>
            have HF : Hid (pPath t i = none) := Lib.hid (by rw [HR.out, pSts_eq hk, HT.out, hv])
            rw [hv] at L6
            simp only [Option.isNone_none] at L6
            clear hv
            have tok : True := trivial
            go_wp2_with (first
              | (go_at_call 149; refine (takes_bad _ r t _ _ L6.hr).mono ?_; rintro e w9 ⟨rfl, hr9, ht9⟩; have L9 := L6.to ht9 hr9)
              | (go_at_call 148; refine (fail_any _ r t _ _ L9.hr).mono ?_; rintro e wf ⟨he, hrf, htf⟩; unfold bad6 at he; subst he; have Lf := L9.to htf hrf; obtain ⟨p0, p1, p2, p3, p4, p5, pf⟩ := Lf.b4))
            exact bodyPost_ret (v := .agg #[.int .i64 (-1), .int .i64 0, .int .i64 0, .string ⟨#[]⟩, .slice none 0 0, .slice none 0 0]) (by simp [results, Tryz.results154, go_sem, p0, p1, p2, p3, p4, p5]) rfl
              (Lf.bad (by rw [HF.out]) [.int .i64 (-1), .int .i64 0, .int .i64 0, .string ⟨#[]⟩, .slice none 0 0, .slice none 0 0])

          | some p =>
            obtain ⟨y, l⟩ := p
            obtain ⟨rfl, rfl⟩ := hval y l hv
            have hkx := pThg_kind hv
            have hkl := pThg_fwd (by omega) hv
            have HE : Hid (pPath t i = if (9 : Int) = 8 ∧ byI t j = 62 then some (.mk 10 0 0 e0 [] (xs ++ [x]), j + 1) else if byI t j = 32 then pSts t (j + 1) (17 - 9) (xs ++ [x]) else none) := Lib.hid (by rw [HR.out, pSts_eq hk, HT.out, hv]; simp only []; rw [if_neg (by rw [hkx]; simp)])
            rw [hv] at L6
            simp only [Option.isNone_some] at L6
            clear hv
            by_cases q32 : byI t j = 32
            · have HG : Hid (pPath t i = pSts t (j + 1) (17 - 9) (xs ++ [x])) := Lib.hid (by rw [HE.out, if_neg (fun q => absurd q.1 (by decide)), if_pos q32])
              have hl32 := byI_pos (by decide) q32
              have Q32 := Lib.hid q32
              clear q32 HE
              have tok : True := trivial
              go_wp2_with (first
                | (go_at_call 149; refine (take1_yes _ r t _ 32 L6.hr (by decide) Q32.out).mono ?_; rintro e w9 ⟨rfl, hr9, ht9⟩; have L9 := L6.to ht9 hr9))
              have hm1 := L9.hr.lef
              go_roundw
              case rel => exact ⟨j + 1, xs ++ [x], _, by simp; omega, hl32, HG.out.trans (by rw [parW_snoc, HPW.out]), L9⟩
              case measure => omega
            · have HF : Hid (pPath t i = none) := Lib.hid (by rw [HE.out, if_neg (fun q => absurd q.1 (by decide)), if_neg q32])
              have Q32 := Lib.hid q32
              clear q32 HE
              have tok : True := trivial
              go_wp2_with (first
                | (go_at_call 149; refine (take1_no _ r t _ 32 L6.hr (by decide) Q32.out).mono ?_; rintro e w9 ⟨rfl, hr9, ht9⟩; have L9 := L6.to ht9 hr9)
                | (go_at_call 148; refine (fail_any _ r t _ _ L9.hr).mono ?_; rintro e wf ⟨he, hrf, htf⟩; unfold bad6 at he; subst he; have Lf := L9.to htf hrf; obtain ⟨p0, p1, p2, p3, p4, p5, pf⟩ := Lf.b4))
              exact bodyPost_ret (v := .agg #[.int .i64 (-1), .int .i64 0, .int .i64 0, .string ⟨#[]⟩, .slice none 0 0, .slice none 0 0]) (by simp [results, Tryz.results154, go_sem, p0, p1, p2, p3, p4, p5]) rfl
                (Lf.bad (by rw [HF.out]) [.int .i64 (-1), .int .i64 0, .int .i64 0, .string ⟨#[]⟩, .slice none 0 0, .slice none 0 0])

      · have HF : Hid (pPath t i = none) := Lib.hid (by rw [HR.out, pSts_eq hk]; exact pThing_not 9 101 (.inr ⟨rfl, rfl⟩) hc _)
        have HC := Lib.hid hc
        clear hc
        go_wp2_with (first
          | (go_at_call 149; refine (take1_no _ r t k 101 L.hr (by decide) HC.out).mono ?_; rintro e w8 ⟨rfl, hr8, ht8⟩; have L8 := L.to ht8 hr8)
          | (go_at_call 148; refine (fail_any _ r t _ _ L8.hr).mono ?_; rintro e wf ⟨he, hrf, htf⟩; unfold bad6 at he; subst he; have Lf := L8.to htf hrf; obtain ⟨p0, p1, p2, p3, p4, p5, pf⟩ := Lf.b4))
        exact bodyPost_ret (v := .agg #[.int .i64 (-1), .int .i64 0, .int .i64 0, .string ⟨#[]⟩, .slice none 0 0, .slice none 0 0]) (by simp [results, Tryz.results154, go_sem, p0, p1, p2, p3, p4, p5]) rfl
          (Lf.bad (by rw [HF.out]) [.int .i64 (-1), .int .i64 0, .int .i64 0, .string ⟨#[]⟩, .slice none 0 0, .slice none 0 0])

    · have m1 : v2 % 2 = 0 := by rw [HV2.out]; omega
      have m2 : (v2 : Int) % 2 = 0 := by omega
      have m3 : (v2 : Int).tmod 2 = 0 := by rw [Int.tmod_eq_emod_of_nonneg (by omega)]; exact m2
      have HPW : Hid (parW xs.length = 8) := Lib.hid (by unfold parW; rw [if_neg hpar])
      rw [HPW.out] at HR
      by_cases hc : byI t k = 110
      · have HT : Hid (pThing t k = pThg 8 t (k + 1)) := Lib.hid (pThing_8 hk hc)
        have hck := byI_pos (by decide) hc
        go_upto_region 10 with (go_at_call 149; refine (take1_yes _ r t k 110 L.hr (by decide) hc).mono ?_; rintro e w8 ⟨rfl, hr8, ht8⟩; have L8 := L.to ht8 hr8)
        replace L := L8
        clear L8 d0 q2
        have d4 := L.b6.b4
        go_region_law (first
          | (have hb5 : Below w3.heap.size w3 (w3.alloc (.cells #[.int .i64 k', .int .i64 n', .int .i64 m', .string s', .slice a1 l1 c1', .slice a2 l2 c2'] 179)) := (Below.refl _ w3).alloc (Nat.le_refl _) _; have H5 := L3.hh.below hb5; obtain ⟨fs, hfl, ho5, he5⟩ := H5.items; refine step_append_lies _ (by rfl) (.tmp 24) (.tmp 28) 177 (by rfl) (w.heap.size + 2) 179 i0 (.agg #[.int .i64 0, .int .i64 0, .int .i64 0, .string ⟨#[]⟩, .slice none 0 0, .slice none 0 0]) 6 88 Tryz.underlying177 hi0 hz0 hz1 hz2 rfl (by decide) (.slice v1 v2 v3) xs.length (fs.flatMap c6) (by rfl) ho5 ⟨_, 0, none⟩ 1 1 [.int .i64 k', .int .i64 n', .int .i64 m', .string s', .slice a1 l1 c1', .slice a2 l2 c2'] (by rfl) rfl (World.news_of_block (new_block (by simp) _ _)) (hg ▸ EV.one (.inr ⟨rfl, rfl⟩) hEV) (by decide) (by unfold maxLen; omega) (by omega) (by simp <;> omega) _ rfl ?_; intro gg cap w6 hown6 hgrow6 hat6 hlt6; have hgrow6 : World.grownBy _ w6 (Value.slice v1 v2 v3).ownBlock := hgrow6; have hat6 : (Value.slice v1 v2 v3).ownBlock = some gg ∨ gg = _ := hat6; rw [← hg] at hown6; obtain ⟨BB, L6⟩ := Lst.item L3 hb5 hfl ho5 he5 hown6 hgrow6 hat6 hlt6 (Hold.fresh L.drew.hh L.drew.hz hEV hb5); have d4 := BB.b4; have df := BB.bf)
          | (go_simp; go_at_call 153; refine (sthing_any _ r t (k + 1) 8 L.drew.hr).mono ?_; rintro e w3 ⟨vv, x, j, rfl, hVS, hr3, ht3, hval⟩; obtain ⟨k', n', m', s', a1, l1, c1', a2, l2, c2', g, rfl, hg, hEV⟩ := hVS.lits; have L3 := L.drew.to ht3 hr3; have d4 := L3.b6.b4; have hz3 := L3.hz; have d4a := fun o => (L3.below ((Below.refl _ w3).alloc (Nat.le_refl _) o)).b6.b4))

        all_goals clear d4 d4a df BB hown6 hgrow6 hat6
        all_goals generalize w6.setCell ⟨w.heap.size + 1, 4, none⟩ (.slice (some ⟨gg, 0, none⟩) (xs.length + 1) cap) = w7 at L6 ⊢
        all_goals
          cases hv : pThg 8 t (k + 1) with
          | none =>
            have HF : Hid (pPath t i = none) := Lib.hid (by rw [HR.out, pSts_eq hk, HT.out, hv])
            rw [hv] at L6
            simp only [Option.isNone_none] at L6
            clear hv
            have tok : True := trivial
            go_wp2_with (first
              | (go_at_call 149; clear tok; refine (takes_bad _ r t _ _ L6.hr).mono ?_; rintro e w8 ⟨rfl, hr8, ht8⟩; have L8 := L6.to ht8 hr8)
              | (go_at_call 149; refine (takes_bad _ r t _ _ L8.hr).mono ?_; rintro e w9 ⟨rfl, hr9, ht9⟩; have L9 := L8.to ht9 hr9)
              | (go_at_call 148; refine (fail_any _ r t _ _ L9.hr).mono ?_; rintro e wf ⟨he, hrf, htf⟩; unfold bad6 at he; subst he; have Lf := L9.to htf hrf; obtain ⟨p0, p1, p2, p3, p4, p5, pf⟩ := Lf.b4))
            exact bodyPost_ret (v := .agg #[.int .i64 (-1), .int .i64 0, .int .i64 0, .string ⟨#[]⟩, .slice none 0 0, .slice none 0 0]) (by simp [results, Tryz.results154, go_sem, p0, p1, p2, p3, p4, p5]) rfl
              (Lf.bad (by rw [HF.out]) [.int .i64 (-1), .int .i64 0, .int .i64 0, .string ⟨#[]⟩, .slice none 0 0, .slice none 0 0])

          | some p =>
            obtain ⟨y, l⟩ := p
            obtain ⟨rfl, rfl⟩ := hval y l hv
            have hkx := pThg_kind hv
            have hkl := pThg_fwd (by omega) hv
            have HE : Hid (pPath t i = if (8 : Int) = 8 ∧ byI t j = 62 then some (.mk 10 0 0 e0 [] (xs ++ [x]), j + 1) else if byI t j = 32 then pSts t (j + 1) (17 - 8) (xs ++ [x]) else none) := Lib.hid (by rw [HR.out, pSts_eq hk, HT.out, hv]; simp only []; rw [if_neg (by rw [hkx]; simp)])
            rw [hv] at L6
            simp only [Option.isNone_some] at L6
            clear hv
            by_cases q62 : byI t j = 62
            · have HF : Hid (pPath t i = some (.mk 10 0 0 e0 [] (xs ++ [x]), j + 1)) := Lib.hid (by rw [HE.out, if_pos ⟨rfl, q62⟩])
              have Q62 := Lib.hid q62
              clear q62 HE
              go_wp2_with (go_at_call 149; refine (take1_yes _ r t _ 62 L6.hr (by decide) Q62.out).mono ?_; rintro e w8 ⟨rfl, hr8, ht8⟩; have L8 := L6.to ht8 hr8; obtain ⟨p0, p1, p2, p3, p4, p5, pf⟩ := L8.b4; obtain ⟨c0, c1, c2, c3, c4, c5, cf⟩ := L8.b6)
              exact bodyPost_ret (v := .agg #[.int .i64 10, .int .i64 0, .int .i64 0, .string ⟨#[]⟩, .slice (some ⟨gg, 0, none⟩) (xs.length + 1) cap, .slice none 0 0]) (by simp [results, Tryz.results154, go_sem, p0, p1, p2, p3, p4, p5]) rfl
                (L8.done (by simp) (by simp; omega) (by rw [HF.out]; rfl) (fun y k' hy => by rw [HF.out] at hy; cases hy; exact ⟨rfl, rfl⟩) [.int .i64 10, .int .i64 0, .int .i64 0, .string ⟨#[]⟩, .slice (some ⟨gg, 0, none⟩) (xs.length + 1) cap, .slice none 0 0])
            · have Q62 := Lib.hid q62
              by_cases q32 : byI t j = 32
              · have HG : Hid (pPath t i = pSts t (j + 1) (17 - 8) (xs ++ [x])) := Lib.hid (by rw [HE.out, if_neg (fun q => q62 q.2), if_pos q32])
                have hl32 := byI_pos (by decide) q32
                have Q32 := Lib.hid q32
                clear q32 HE
                have tok : True := trivial
                go_wp2_with (first
                  | (go_at_call 149; clear tok; refine (take1_no _ r t _ 62 L6.hr (by decide) Q62.out).mono ?_; rintro e w8 ⟨rfl, hr8, ht8⟩; have L8 := L6.to ht8 hr8)
                  | (go_at_call 149; refine (take1_yes _ r t _ 32 L8.hr (by decide) Q32.out).mono ?_; rintro e w9 ⟨rfl, hr9, ht9⟩; have L9 := L8.to ht9 hr9))
                have hm1 := L9.hr.lef
                go_roundw
                case rel => exact ⟨j + 1, xs ++ [x], _, by simp; omega, hl32, HG.out.trans (by rw [parW_snoc, HPW.out]), L9⟩
                case measure => omega
              · have HF : Hid (pPath t i = none) := Lib.hid (by rw [HE.out, if_neg (fun q => q62 q.2), if_neg q32])
                have Q32 := Lib.hid q32
                clear q32 HE
                have tok : True := trivial
                go_wp2_with (first
                  | (go_at_call 149; clear tok; refine (take1_no _ r t _ 62 L6.hr (by decide) Q62.out).mono ?_; rintro e w8 ⟨rfl, hr8, ht8⟩; have L8 := L6.to ht8 hr8)
                  | (go_at_call 149; refine (take1_no _ r t _ 32 L8.hr (by decide) Q32.out).mono ?_; rintro e w9 ⟨rfl, hr9, ht9⟩; have L9 := L8.to ht9 hr9)
                  | (go_at_call 148; refine (fail_any _ r t _ _ L9.hr).mono ?_; rintro e wf ⟨he, hrf, htf⟩; unfold bad6 at he; subst he; have Lf := L9.to htf hrf; obtain ⟨p0, p1, p2, p3, p4, p5, pf⟩ := Lf.b4))
                exact bodyPost_ret (v := .agg #[.int .i64 (-1), .int .i64 0, .int .i64 0, .string ⟨#[]⟩, .slice none 0 0, .slice none 0 0]) (by simp [results, Tryz.results154, go_sem, p0, p1, p2, p3, p4, p5]) rfl
                  (Lf.bad (by rw [HF.out]) [.int .i64 (-1), .int .i64 0, .int .i64 0, .string ⟨#[]⟩, .slice none 0 0, .slice none 0 0])

      · have HF : Hid (pPath t i = none) := Lib.hid (by rw [HR.out, pSts_eq hk]; exact pThing_not 8 110 (.inl ⟨rfl, rfl⟩) hc _)
        have HC := Lib.hid hc
        clear hc
        go_wp2_with (first
          | (go_at_call 149; refine (take1_no _ r t k 110 L.hr (by decide) HC.out).mono ?_; rintro e w8 ⟨rfl, hr8, ht8⟩; have L8 := L.to ht8 hr8)
          | (go_at_call 148; refine (fail_any _ r t _ _ L8.hr).mono ?_; rintro e wf ⟨he, hrf, htf⟩; unfold bad6 at he; subst he; have Lf := L8.to htf hrf; obtain ⟨p0, p1, p2, p3, p4, p5, pf⟩ := Lf.b4))
        exact bodyPost_ret (v := .agg #[.int .i64 (-1), .int .i64 0, .int .i64 0, .string ⟨#[]⟩, .slice none 0 0, .slice none 0 0]) (by simp [results, Tryz.results154, go_sem, p0, p1, p2, p3, p4, p5]) rfl
          (Lf.bad (by rw [HF.out]) [.int .i64 (-1), .int .i64 0, .int .i64 0, .string ⟨#[]⟩, .slice none 0 0, .slice none 0 0])

end Go.Proofs.YtllhimeffkefiaaGreatDoor
