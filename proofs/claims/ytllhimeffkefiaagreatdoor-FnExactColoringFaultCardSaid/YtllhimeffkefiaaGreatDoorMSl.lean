/- Texts of one proof, joined in their order: each bears its own word of what it holds and on what condition. -/
import Derived.Test.YtllhimeffkefiaaGreatDoorMH
import Derived.Test.YtllhimeffkefiaaGreatDoorME
set_option linter.unusedVariables false
set_option linter.unusedSimpArgs false
/- The specification's reading of maps. Condition: texts of at most 2^20 bytes. -/
set_option linter.unusedVariables false
set_option linter.unusedSimpArgs false
namespace Go.Proofs.YtllhimeffkefiaaGreatDoor
open Go.RowKit Go.Sort
attribute [local go_sem] binOp_string_geq'

/-! ### rising texts -/
def risP (ns : List ByteArray) (k : Nat) : Bool := decide (k = 0) || ltS (ns.getD (k - 1) e0) (ns.getD k e0)
def risL (ns : List ByteArray) : Bool := allN (risP ns) ns.length
theorem allN_congr {p q : Nat → Bool} : ∀ {n : Nat}, (∀ k, k < n → p k = q k) → allN p n = allN q n
  | 0, _ => rfl
  | n + 1, h => by simp only [allN]; rw [allN_congr (fun k hk => h k (by omega)), h n (by omega)]
theorem risL_snoc (ns : List ByteArray) (s : ByteArray) : risL (ns ++ [s]) = (risL ns && riseB ns s) := by
  unfold risL
  rw [List.length_append, List.length_singleton]
  simp only [allN]
  congr 1
  · refine allN_congr (fun k hk => ?_)
    unfold risP
    simp only [List.getD_eq_getElem?_getD]
    rw [List.getElem?_append_left (by omega), List.getElem?_append_left hk]
  · unfold risP riseB
    cases ns with
    | nil => simp
    | cons a l =>
      rw [List.getLast?_eq_getElem?]
      simp only [List.getD_eq_getElem?_getD]
      rw [List.getElem?_append_left (by simp), List.getElem?_append_right (Nat.le_refl _)]
      have : (a :: l)[(a :: l).length - 1]? = some ((a :: l)[(a :: l).length - 1]'(by simp)) := List.getElem?_eq_getElem _
      rw [this]
      simp
set_option maxHeartbeats 1000000 in
set_option maxRecDepth 100000 in
theorem srising_any (w : World) (S : Nat → Prop) (v : Value) (ns : List ByteArray) (h : RStr w S v ns) : Calls Tryz.prog 113 #[v] w (BoolB (risL ns) w) := by
  obtain ⟨a, c, rfl⟩ := h.shape
  have hlen := h.len
  have hlen2 : (ns.length : Int) ≤ 9223372036854775807 := by omega
  go_enter Tryz.func113, Tryz.ntmps113
  go_wp2
  go_loopw [3] (fun i wr => ∃ k : Nat, 1 ≤ k ∧ (k ≤ ns.length ∨ k = 1) ∧ i = .int .i64 k ∧ Hid (allN (risP ns) (min k ns.length) = true) ∧ Below w.heap.size w wr) (fun i wr => ns.length - (intOf i).toNat)
  case atStart => exact ⟨1, by omega, .inr rfl, rfl, Lib.hid (by
    cases ns with
    | nil => rfl
    | cons a l => rw [Nat.min_eq_left (by simp)]; rfl), Below.refl _ _⟩
  case round =>
    obtain ⟨k, hk1, hk2, rfl, HA, hb⟩ := hrel
    by_cases hlt : k < ns.length
    · have hr := h.below EStr.kept hb
      have hlt2 : (k : Int) < ns.length := by omega
      have g0 : decide ((k : Int) < ns.length) = true := decide_eq_true hlt2
      have g0' : decide (k < ns.length) = true := decide_eq_true hlt
      obtain ⟨b, o, rfl, hS, hc, _⟩ := RStr.at hr hlt
      obtain ⟨b', o', hab, _, hc', _⟩ := RStr.at hr (k := k - 1) (by omega)
      cases hab
      have g2 : ((k : Int) - 1).toNat = k - 1 := by omega
      have g3 : (0 : Int) ≤ (k : Int) - 1 := by omega
      have g4 : (k : Int) - 1 < ns.length := by omega
      obtain ⟨la, hla⟩ : ∃ la, ns[k - 1] = la := ⟨_, rfl⟩
      obtain ⟨lb, hlb⟩ : ∃ lb, ns[k] = lb := ⟨_, rfl⟩
      rw [hla] at hc'
      rw [hlb] at hc
      have HP : Hid (risP ns k = Op.bytesLess la.toList lb.toList) := Lib.hid (by unfold risP; rw [getD_eq hlt, getD_eq (show k - 1 < ns.length by omega), hla, hlb, decide_eq_false (by omega)]; rfl)
      rw [Nat.min_eq_left (by omega)] at HA
      clear hla hlb
      cases hbl : Op.bytesLess la.toList lb.toList with
      | true =>
        have HA' : Hid (allN (risP ns) (min (k + 1) ns.length) = true) := Lib.hid (by rw [Nat.min_eq_left (by omega)]; exact allN_up HA.out (HP.out.trans hbl))
        go_wp2_with fail
        go_big_quiet (fail)
        go_wp2_with fail
        go_roundw
        case rel => exact ⟨k + 1, by omega, .inl (by omega), by go_num, HA', hb.trans ((drewN_below wr nq).mono hb.size)⟩
        case measure => simp [intOf]; omega
      | false =>
        have HF : Hid (risL ns = false) := Lib.hid (allN_no hlt (HP.out.trans hbl))
        go_wp2_with fail
        go_big_quiet (fail)
        go_wp2_with fail
        go_ret
        exact ⟨by rw [HF.out]; rfl, hb.trans ((drewN_below wr nq).mono hb.size)⟩
    · have HF : Hid (risL ns = true) := Lib.hid (by rw [Nat.min_eq_right (by omega)] at HA; exact HA.out)
      have g0 : decide ((k : Int) < ns.length) = false := decide_eq_false (by omega)
      have g0' : decide (k < ns.length) = false := decide_eq_false hlt
      go_wp2_with fail
      go_ret
      exact ⟨by rw [HF.out]; rfl, hb⟩
theorem srising_is (w : World) (S : Nat → Prop) (v : Value) (ns : List ByteArray) (b : Bool) (hb : risL ns = b) (h : RStr w S v ns) : Calls Tryz.prog 113 #[v] w (BoolB b w) := hb ▸ srising_any w S v ns h
theorem if_ctx {a b c : Prop} [Decidable c] [Decidable (a ∧ b ∧ c)] (h : a ∧ b) {α : Type} {x y : α} : (if a ∧ b ∧ c then x else y) = if c then x else y := by
  by_cases hc : c
  · rw [if_pos ⟨h.1, h.2, hc⟩, if_pos hc]
  · rw [if_neg (fun q => hc q.2.2), if_neg hc]

set_option maxHeartbeats 8000000 in
set_option maxRecDepth 100000 in
theorem sfields_any (d : Int) (hd0 : 0 ≤ d) (hd : d < 5) (f : Par) (hf : VSk f (d + 1)) (hp : f.Fwd) (w : World) (r : Nat) (t : ByteArray) (i : Nat) (h : Sr w r t (i + 1) false) :
    Calls Tryz.prog 156 #[.pointer (some ⟨r, 0, none⟩), .int .i64 d] w (ValS r t (pMap f t i) w) := by
  have hlt := h.lt
  have hsz := h.sz
  have hne : w.heap.size ≠ r := by omega
  have hne2 : w.heap.size + 1 ≠ r := by omega
  have L0 := Lst.start h 7
  have hdw : IntKind.i64.wrap (d + 1) = d + 1 := wrap64_of _ (by omega) (by omega)
  have hdw2 : wrap64 (d + 1) = d + 1 := by rw [wrap64_is, hdw]
  obtain ⟨i0, hi0, hz0, hz1, hz2⟩ := info_parts (show (Tryz.prog.info? 179).map (fun i => (i.zero, i.size, i.bytes)) = some (some (.agg #[.int .i64 0, .int .i64 0, .int .i64 0, .string ⟨#[]⟩, .slice none 0 0, .slice none 0 0]), 6, 88) by kernel_rfl)
  obtain ⟨s0, hs0, hy0, hy1, hy2⟩ := info_parts (show (Tryz.prog.info? 9).map (fun i => (i.zero, i.size, i.bytes)) = some (some (.string ⟨#[]⟩), 1, 16) by kernel_rfl)
  by_cases h125 : byI t (i + 1) = 125
  · have HP : Hid (pMap f t i = some (.mk 7 0 0 e0 [] [], i + 1 + 1)) := Lib.hid (by unfold pMap; rw [if_pos h125])
    have H125 := Lib.hid h125
    clear h125
    go_enter Tryz.func156, Tryz.ntmps156
    go_wp2_with (go_at_call 149; refine (take1_yes _ r t (i + 1) 125 L0.hr (by decide) H125.out).mono ?_; rintro e w2 ⟨rfl, hr2, ht2⟩; have L2 := L0.to ht2 hr2; obtain ⟨p0, p1, p2, p3, p4, p5, pf⟩ := L2.b4; obtain ⟨c0, c1, c2, c3, c4, c5, cf⟩ := L2.b6)
    exact bodyPost_ret (v := .agg #[.int .i64 7, .int .i64 0, .int .i64 0, .string ⟨#[]⟩, .slice none 0 0, .slice none 0 0]) (by simp [results, Tryz.results156, go_sem, p0, p1, p2, p3, p4, p5]) rfl
      (L2.done (by simp) (by simp) (by rw [HP.out]; rfl) (fun y k' hy => by rw [HP.out] at hy; cases hy; exact ⟨rfl, rfl⟩) [.int .i64 7, .int .i64 0, .int .i64 0, .string ⟨#[]⟩, .slice none 0 0, .slice none 0 0])
  · have HP0 : Hid (pMap f t i = pFls f t (i + 1) [] []) := Lib.hid (by unfold pMap; rw [if_neg h125])
    have H125 := Lib.hid h125
    clear h125
    go_enter Tryz.func156, Tryz.ntmps156
    go_wp2_with (go_at_call 149; refine (take1_no _ r t (i + 1) 125 L0.hr (by decide) H125.out).mono ?_; rintro e w2 ⟨rfl, hr2, ht2⟩; have L2 := L0.to ht2 hr2)
    go_loopw [] (fun wr => ∃ (k : Nat) (ns : List ByteArray) (xs : List Val) (u v : Value), ns.length ≤ k ∧ xs.length ≤ k ∧ k ≤ t.size ∧ Hid (pMap f t i = if risL ns = true then pFls f t k ns xs else none) ∧ Lst w r t wr k false 7 u v ns xs) (fun wr => lefS r t wr)
    case atStart => exact ⟨i + 1, [], [], _, _, Nat.zero_le _, Nat.zero_le _, hr2.le, Lib.hid (by rw [HP0.out]; rfl), L2⟩
    case round =>
      clear L2 hr2 ht2 L0
      obtain ⟨k, ns, xs, u, v, hk0, hk1, hk, HR, L⟩ := hrel
      have hsz2 : (t.size : Int) ≤ 1048576 := by omega
      obtain ⟨⟨v1, v2, v3, rfl⟩, ⟨u1, u2, u3, rfl⟩⟩ : (∃ v1 v2 v3, v = .slice v1 v2 v3) ∧ ∃ u1 u2 u3, u = .slice u1 u2 u3 := by
        obtain ⟨⟨v1, v3, e1⟩, ⟨u1, u3, e2⟩⟩ := L.shape (by omega) (by omega)
        exact ⟨⟨_, _, _, e1⟩, ⟨_, _, _, e2⟩⟩
      obtain ⟨s, HSN⟩ : ∃ s, Hid (nameAt t k = s) := ⟨_, Lib.hid rfl⟩
      obtain ⟨ne, HNE⟩ : ∃ ne, Hid (nameEnd t k = ne) := ⟨_, Lib.hid rfl⟩
      have hne3 := nameEnd_le hk
      rw [HNE.out] at hne3
      have hsS : Sz s := by
        have : (nameAt t k).size ≤ t.size := by unfold nameAt; rw [ByteArray.size_extract]; omega
        rw [HSN.out] at this
        unfold Sz
        omega
      have q2 := L.hr.c2
      have d0 := L.b6.b5
      have hm2 := L.hr.lef
      go_upto_region 5 with fail
      go_region_law (first
        | (have hb5 : Below w3.heap.size w3 (w3.alloc (.cells #[.string s] 9)) := (Below.refl _ w3).alloc (Nat.le_refl _) _; have H5 := L3.hh.below hb5; refine step_append_lies _ (by rfl) (.tmp 16) (.tmp 19) 71 (by rfl) (w.heap.size + 2) 9 s0 (.string ⟨#[]⟩) 1 16 Tryz.underlying71 hs0 hy0 hy1 hy2 rfl (by decide) (.slice u1 u2 u3) ns.length (ns.map Value.string) (by rfl) H5.names ⟨_, 0, none⟩ 1 1 [.string s] (by rfl) rfl (World.news_of_block (new_block (by simp) _ _)) (str_one s) (by decide) (by unfold maxLen; omega) (by omega) (by simp <;> omega) _ rfl ?_; intro gn capn w6 hown6 hgrow6 hat6 hlt6; have hgrow6 : World.grownBy _ w6 (Value.slice u1 u2 u3).ownBlock := hgrow6; have hat6 : (Value.slice u1 u2 u3).ownBlock = some gn ∨ gn = _ := hat6; obtain ⟨BB, L6⟩ := Lst.name L3 hb5 hsS hown6 hgrow6 hat6 hlt6; have d5 := BB.b5; have df := BB.bf)
        | (go_simp; go_at_call 172; refine (sname_any _ r t k false L.drew.hr).mono ?_; rintro e w3 ⟨he, hr3, ht3⟩; rw [HSN.out] at he; subst he; rw [Bool.false_or, HSN.out] at hr3; have L3 := L.drew.to ht3 hr3; have d5 := L3.b6.b5; have hz3 := L3.hz; have d5a := fun o => (L3.below ((Below.refl _ w3).alloc (Nat.le_refl _) o)).b6.b5))

      all_goals clear d5 d5a df BB hown6 hgrow6 hat6 hlt6 d0 q2 hb5 H5 hz3
      all_goals rw [HNE.out] at L6
      all_goals generalize w6.setCell ⟨w.heap.size + 1, 5, none⟩ (.slice (some ⟨gn, 0, none⟩) (ns.length + 1) capn) = w7 at L6 ⊢
      all_goals
        cases hnb : nameB s with
        | false =>
          have HF : Hid (pMap f t i = none) := Lib.hid (by rw [HR.out, pFls_eq hp hk, HSN.out, hnb]; simp)
          rw [hnb] at L6
          simp only [Bool.not_false] at L6
          clear hnb
          go_wp2_with (first
            | (go_at_call 149; refine (takes_bad _ r t _ _ L6.hr).mono ?_; rintro e w8 ⟨rfl, hr8, ht8⟩; have L8 := L6.to ht8 hr8)
            | (go_at_call 148; refine (fail_any _ r t _ _ L8.hr).mono ?_; rintro e wf ⟨he, hrf, htf⟩; unfold bad6 at he; subst he; have Lf := L8.to htf hrf; obtain ⟨p0, p1, p2, p3, p4, p5, pf⟩ := Lf.b4))
          exact bodyPost_ret (v := .agg #[.int .i64 (-1), .int .i64 0, .int .i64 0, .string ⟨#[]⟩, .slice none 0 0, .slice none 0 0]) (by simp [results, Tryz.results156, go_sem, p0, p1, p2, p3, p4, p5]) rfl
            (Lf.bad (by rw [HF.out]) [.int .i64 (-1), .int .i64 0, .int .i64 0, .string ⟨#[]⟩, .slice none 0 0, .slice none 0 0])

        | true =>
          rw [hnb] at L6
          simp only [Bool.not_true] at L6
          by_cases hcol : byI t ne = 58
          · have hne58 := byI_pos (by decide) hcol
            go_upto_region 8 with (go_at_call 149; refine (take1_yes _ r t _ 58 L6.hr (by decide) hcol).mono ?_; rintro e w8 ⟨rfl, hr8, ht8⟩; have L8 := L6.to ht8 hr8)
            replace L := L8
            clear L8 L6 L3 hr3 ht3
            have d4 := L.b6.b4
            go_region_law (first
              | (have hb5 : Below w3.heap.size w3 (w3.alloc (.cells #[.int .i64 k', .int .i64 n', .int .i64 m', .string s', .slice a1 l1 c1', .slice a2 l2 c2'] 179)) := (Below.refl _ w3).alloc (Nat.le_refl _) _; have H5 := L3.hh.below hb5; obtain ⟨fs, hfl, ho5, he5⟩ := H5.items; refine step_append_lies _ (by rfl) (.tmp 28) (.tmp 33) 177 (by rfl) (w.heap.size + 2) 179 i0 (.agg #[.int .i64 0, .int .i64 0, .int .i64 0, .string ⟨#[]⟩, .slice none 0 0, .slice none 0 0]) 6 88 Tryz.underlying177 hi0 hz0 hz1 hz2 rfl (by decide) (.slice v1 v2 v3) xs.length (fs.flatMap c6) (by rfl) ho5 ⟨_, 0, none⟩ 1 1 [.int .i64 k', .int .i64 n', .int .i64 m', .string s', .slice a1 l1 c1', .slice a2 l2 c2'] (by rfl) rfl (World.news_of_block (new_block (by simp) _ _)) (hg ▸ EV.one (.inr ⟨rfl, rfl⟩) hEV) (by decide) (by unfold maxLen; omega) (by omega) (by simp <;> omega) _ rfl ?_; intro gg cap w6 hown6 hgrow6 hat6 hlt6; have hgrow6 : World.grownBy _ w6 (Value.slice v1 v2 v3).ownBlock := hgrow6; have hat6 : (Value.slice v1 v2 v3).ownBlock = some gg ∨ gg = _ := hat6; rw [← hg] at hown6; obtain ⟨BB, L6⟩ := Lst.item L3 hb5 hfl ho5 he5 hown6 hgrow6 hat6 hlt6 (Hold.fresh L.drew.hh L.drew.hz hEV hb5); have d4 := BB.b4; have df := BB.bf)
              | (go_simp; go_at_call 145; refine (hf _ r t (ne + 1) L.drew.hr).mono ?_; rintro e w3 ⟨vv, x, j, rfl, hVS, hr3, ht3, hval⟩; obtain ⟨k', n', m', s', a1, l1, c1', a2, l2, c2', g, rfl, hg, hEV⟩ := hVS.lits; have L3 := L.drew.to ht3 hr3; have d4 := L3.b6.b4; have hz3 := L3.hz; have d4a := fun o => (L3.below ((Below.refl _ w3).alloc (Nat.le_refl _) o)).b6.b4))

            all_goals clear d4 d4a df BB hown6 hgrow6 hat6
            all_goals generalize w6.setCell ⟨w.heap.size + 1, 4, none⟩ (.slice (some ⟨gg, 0, none⟩) (xs.length + 1) cap) = w7 at L6 ⊢
            all_goals
              cases hv : f t (ne + 1) with
              | none =>
                have HF : Hid (pMap f t i = none) := Lib.hid (by rw [HR.out, pFls_eq hp hk, HSN.out, HNE.out, if_ctx ⟨hnb, hcol⟩, hv]; split <;> (try split) <;> rfl)
                rw [hv] at L6
                simp only [Option.isNone_none] at L6
                clear hv
                have tok : True := trivial
                go_wp2_with (first
                  | (go_at_call 149; clear tok; refine (takes_bad _ r t _ _ L6.hr).mono ?_; rintro e w8 ⟨rfl, hr8, ht8⟩; have L8 := L6.to ht8 hr8)
                  | (go_at_call 149; refine (takes_bad _ r t _ _ L8.hr).mono ?_; rintro e w9 ⟨rfl, hr9, ht9⟩; have L9 := L8.to ht9 hr9)
                  | (go_at_call 148; refine (fail_any _ r t _ _ L9.hr).mono ?_; rintro e wf ⟨he, hrf, htf⟩; unfold bad6 at he; subst he; have Lf := L9.to htf hrf; obtain ⟨p0, p1, p2, p3, p4, p5, pf⟩ := Lf.b4))
                exact bodyPost_ret (v := .agg #[.int .i64 (-1), .int .i64 0, .int .i64 0, .string ⟨#[]⟩, .slice none 0 0, .slice none 0 0]) (by simp [results, Tryz.results156, go_sem, p0, p1, p2, p3, p4, p5]) rfl
                  (Lf.bad (by rw [HF.out]) [.int .i64 (-1), .int .i64 0, .int .i64 0, .string ⟨#[]⟩, .slice none 0 0, .slice none 0 0])

              | some p =>
                obtain ⟨y, l⟩ := p
                obtain ⟨rfl, rfl⟩ := hval y l hv
                have hkl := hp t (ne + 1) x j (by omega) hv
                have HE : Hid (pMap f t i = if risL (ns ++ [s]) = true then (if byI t j = 125 then some (.mk 7 0 0 e0 (ns ++ [s]) (xs ++ [x]), j + 1) else if byI t j = 44 then pFls f t (j + 1) (ns ++ [s]) (xs ++ [x]) else none) else none) := Lib.hid (by
                  rw [HR.out, pFls_eq hp hk, HSN.out, HNE.out, risL_snoc, hv]
                  cases h1 : risL ns <;> cases h2 : riseB ns s <;> simp [hnb, hcol])
                rw [hv] at L6
                simp only [Option.isNone_some] at L6
                clear hv
                by_cases q125 : byI t j = 125
                · have Q125 := Lib.hid q125
                  cases hri : risL (ns ++ [s]) with
                  | true =>
                    have HF : Hid (pMap f t i = some (.mk 7 0 0 e0 (ns ++ [s]) (xs ++ [x]), j + 1)) := Lib.hid (by rw [HE.out, if_pos hri, if_pos q125])
                    clear q125 HE
                    go_wp2_with (first
                      | (go_at_call 149; refine (take1_yes _ r t _ 125 L6.hr (by decide) Q125.out).mono ?_; rintro e w8 ⟨rfl, hr8, ht8⟩; have L8 := L6.to ht8 hr8; obtain ⟨p0, p1, p2, p3, p4, p5, pf⟩ := L8.b4; obtain ⟨c0, c1, c2, c3, c4, c5, cf⟩ := L8.b6)
                      | (go_at_call 113; refine (srising_is _ _ _ _ _ hri (by simpa using L8.hh.rowN (by simp; omega))).mono ?_; rintro e w9 ⟨rfl, hb9⟩; have L9 := L8.below hb9; obtain ⟨p0, p1, p2, p3, p4, p5, pf⟩ := L9.b4; obtain ⟨c0, c1, c2, c3, c4, c5, cf⟩ := L9.b6))
                    exact bodyPost_ret (v := .agg #[.int .i64 7, .int .i64 0, .int .i64 0, .string ⟨#[]⟩, .slice (some ⟨gg, 0, none⟩) (xs.length + 1) cap, .slice (some ⟨gn, 0, none⟩) (ns.length + 1) capn]) (by simp [results, Tryz.results156, go_sem, p0, p1, p2, p3, p4, p5]) rfl
                      (L9.done (by simp; omega) (by simp; omega) (by rw [HF.out]; rfl) (fun y k' hy => by rw [HF.out] at hy; cases hy; exact ⟨rfl, rfl⟩) [.int .i64 7, .int .i64 0, .int .i64 0, .string ⟨#[]⟩, .slice (some ⟨gg, 0, none⟩) (xs.length + 1) cap, .slice (some ⟨gn, 0, none⟩) (ns.length + 1) capn])
                  | false =>
                    have HF : Hid (pMap f t i = none) := Lib.hid (by rw [HE.out, if_neg (by rw [hri]; decide)])
                    clear q125 HE
                    go_wp2_with (first
                      | (go_at_call 149; refine (take1_yes _ r t _ 125 L6.hr (by decide) Q125.out).mono ?_; rintro e w8 ⟨rfl, hr8, ht8⟩; have L8 := L6.to ht8 hr8; obtain ⟨p0, p1, p2, p3, p4, p5, pf⟩ := L8.b4; obtain ⟨c0, c1, c2, c3, c4, c5, cf⟩ := L8.b6)
                      | (go_at_call 113; refine (srising_is _ _ _ _ _ hri (by simpa using L8.hh.rowN (by simp; omega))).mono ?_; rintro e w9 ⟨rfl, hb9⟩; have L9 := L8.below hb9)
                      | (go_at_call 148; refine (fail_any _ r t _ _ L9.hr).mono ?_; rintro e wf ⟨he, hrf, htf⟩; unfold bad6 at he; subst he; have Lf := L9.to htf hrf; obtain ⟨p0, p1, p2, p3, p4, p5, pf⟩ := Lf.b4))
                    exact bodyPost_ret (v := .agg #[.int .i64 (-1), .int .i64 0, .int .i64 0, .string ⟨#[]⟩, .slice none 0 0, .slice none 0 0]) (by simp [results, Tryz.results156, go_sem, p0, p1, p2, p3, p4, p5]) rfl
                      (Lf.bad (by rw [HF.out]) [.int .i64 (-1), .int .i64 0, .int .i64 0, .string ⟨#[]⟩, .slice none 0 0, .slice none 0 0])

                · by_cases q44 : byI t j = 44
                  · have HG : Hid (pMap f t i = if risL (ns ++ [s]) = true then pFls f t (j + 1) (ns ++ [s]) (xs ++ [x]) else none) := Lib.hid (by rw [HE.out, if_neg q125, if_pos q44])
                    have hl44 := byI_pos (by decide) q44
                    have Q125 := Lib.hid q125
                    have Q44 := Lib.hid q44
                    clear q125 q44 HE
                    have tok : True := trivial
                    go_wp2_with (first
                      | (go_at_call 149; clear tok; refine (take1_no _ r t _ 125 L6.hr (by decide) Q125.out).mono ?_; rintro e w8 ⟨rfl, hr8, ht8⟩; have L8 := L6.to ht8 hr8)
                      | (go_at_call 149; refine (take1_yes _ r t _ 44 L8.hr (by decide) Q44.out).mono ?_; rintro e w9 ⟨rfl, hr9, ht9⟩; have L9 := L8.to ht9 hr9))
                    have hm1 := L9.hr.lef
                    go_roundw
                    case rel => exact ⟨j + 1, ns ++ [s], xs ++ [x], _, _, by simp; omega, by simp; omega, hl44, HG.out, L9⟩
                    case measure => omega
                  · have HF : Hid (pMap f t i = none) := Lib.hid (by rw [HE.out, if_neg q125, if_neg q44]; split <;> rfl)
                    have Q125 := Lib.hid q125
                    have Q44 := Lib.hid q44
                    clear q125 q44 HE
                    have tok : True := trivial
                    go_wp2_with (first
                      | (go_at_call 149; clear tok; refine (take1_no _ r t _ 125 L6.hr (by decide) Q125.out).mono ?_; rintro e w8 ⟨rfl, hr8, ht8⟩; have L8 := L6.to ht8 hr8)
                      | (go_at_call 149; refine (take1_no _ r t _ 44 L8.hr (by decide) Q44.out).mono ?_; rintro e w9 ⟨rfl, hr9, ht9⟩; have L9 := L8.to ht9 hr9)
                      | (go_at_call 148; refine (fail_any _ r t _ _ L9.hr).mono ?_; rintro e wf ⟨he, hrf, htf⟩; unfold bad6 at he; subst he; have Lf := L9.to htf hrf; obtain ⟨p0, p1, p2, p3, p4, p5, pf⟩ := Lf.b4))
                    exact bodyPost_ret (v := .agg #[.int .i64 (-1), .int .i64 0, .int .i64 0, .string ⟨#[]⟩, .slice none 0 0, .slice none 0 0]) (by simp [results, Tryz.results156, go_sem, p0, p1, p2, p3, p4, p5]) rfl
                      (Lf.bad (by rw [HF.out]) [.int .i64 (-1), .int .i64 0, .int .i64 0, .string ⟨#[]⟩, .slice none 0 0, .slice none 0 0])

          · have HF : Hid (pMap f t i = none) := Lib.hid (by rw [HR.out, pFls_eq hp hk, HSN.out, HNE.out]; simp [hcol])
            have HC := Lib.hid hcol
            clear hcol hnb
            go_wp2_with (first
              | (go_at_call 149; refine (take1_no _ r t _ 58 L6.hr (by decide) HC.out).mono ?_; rintro e w8 ⟨rfl, hr8, ht8⟩; have L8 := L6.to ht8 hr8)
              | (go_at_call 148; refine (fail_any _ r t _ _ L8.hr).mono ?_; rintro e wf ⟨he, hrf, htf⟩; unfold bad6 at he; subst he; have Lf := L8.to htf hrf; obtain ⟨p0, p1, p2, p3, p4, p5, pf⟩ := Lf.b4))
            exact bodyPost_ret (v := .agg #[.int .i64 (-1), .int .i64 0, .int .i64 0, .string ⟨#[]⟩, .slice none 0 0, .slice none 0 0]) (by simp [results, Tryz.results156, go_sem, p0, p1, p2, p3, p4, p5]) rfl
              (Lf.bad (by rw [HF.out]) [.int .i64 (-1), .int .i64 0, .int .i64 0, .string ⟨#[]⟩, .slice none 0 0, .slice none 0 0])

end Go.Proofs.YtllhimeffkefiaaGreatDoor
