/- Texts of one proof, joined in their order: each bears its own word of what it holds and on what condition. -/
import Derived.Test.YtbaljljlahhkfaaGreatDoorMWd
set_option linter.unusedVariables false
set_option linter.unusedSimpArgs false
/- The specification's StrongParts, whole. No condition on the graph. -/
set_option linter.unusedVariables false
set_option linter.unusedSimpArgs false
namespace Go.Proofs.YtbaljljlahhkfaaGreatDoor
open Go.RowKit Go.Sort

set_option maxHeartbeats 4000000 in
set_option maxRecDepth 100000 in
theorem sstrong_any (w : World) (S : Nat → Prop) (v : Value) (g : Gr) (h : RGr w S v g) : Calls Tryz.prog 9 #[v] w (StrongR g w) := by
  have h0 := h
  obtain ⟨v1, v2, rfl, h1, h2⟩ := h
  obtain ⟨a1, c1, rfl⟩ := h1.shape
  obtain ⟨a2, c2, rfl⟩ := h2.shape
  obtain ⟨n1, hn1⟩ : ∃ n, g.nodes.length = n := ⟨_, rfl⟩
  obtain ⟨n2, hn2⟩ : ∃ n, g.edges.length = n := ⟨_, rfl⟩
  have HN1 := Lib.hid hn1
  rw [hn1, hn2] at h0
  rw [hn1, hn2]
  rw [hn1] at h1
  clear h2 hn1 hn2
  have hba := (Below.refl _ w).alloc (Nat.le_refl _) (.cells #[.slice a1 n1 c1, .slice a2 n2 c2] 32)
  have r1 := h0.below hba
  have x0 : (w.alloc (.cells #[.slice a1 n1 c1, .slice a2 n2 c2] 32)).cell? ⟨w.heap.size, 0, none⟩ = some (.slice a1 n1 c1) := by rw [World.cell?_alloc_mark]; rfl
  have x1 : (w.alloc (.cells #[.slice a1 n1 c1, .slice a2 n2 c2] 32)).cell? ⟨w.heap.size, 1, none⟩ = some (.slice a2 n2 c2) := by rw [World.cell?_alloc_mark]; rfl
  cases hg : gOk g with
  | false =>
    go_enter Tryz.func9, Tryz.ntmps9
    go_wp2_with (go_at_call 33; refine (fault_bad _ _ _ _ hg r1).mono ?_; rintro e w1 ⟨rfl, hb1⟩)
    go_ret
    exact ⟨[], ⟨(fun _ => rfl), (fun h => by rw [hg] at h; cases h)⟩, PtsR.nil _ _ _ _ ((hba.trans (hb1.mono hba.size)).alloc (Nat.le_trans hba.size hb1.size) _)⟩
  | true =>
    have hw := gw_of hg
    have hlen := (gOk_parts hg).1
    have hlen' : (n1 : Int) ≤ 200 := by have := HN1.out; omega
    obtain ⟨CN, hCN, hCNb, hmkN⟩ := make_one (T := 39) (E := 2) (z := .int .i64 0) (by' := 8) Tryz.underlying39 (by kernel_rfl) rfl (by decide) n1 (by omega)
    obtain ⟨CG, hCG, hCGb, hmkG⟩ := make_one (T := 55) (E := 4) (z := .bool false) (by' := 1) Tryz.underlying55 (by kernel_rfl) rfl (by decide) n1 (by omega)
    obtain ⟨i0, hi0, hz0, hz1, hz2⟩ := info_parts (show (Tryz.prog.info? 55).map (fun i => (i.zero, i.size, i.bytes)) = some (some (.slice none 0 0), 1, 24) by kernel_rfl)
    go_enter Tryz.func9, Tryz.ntmps9
    go_upto_region 4 with (first
      | (go_at_call 33; refine (fault_good _ _ _ _ hg r1).mono ?_; rintro e w1 ⟨rfl, hb1⟩; have r2 := r1.below hb1; have y0 := cell_kept (fun hl => hb1.block _ hl) x0; have y1 := cell_kept (fun hl => hb1.block _ hl) x1)
      | (go_at_call 34; refine (linkedD_any _ S _ g r2 hg).mono ?_; rintro e w2 ⟨vL, gs, rfl, hmx, hb2⟩; obtain ⟨l1, l2, l3, rfl⟩ := hmx.shape))
    have hb3 := (Below.refl _ w2).alloc (Nat.le_refl _) (.cells #[.slice l1 l2 l3] 53)
    have hb23 := hb2.trans (hb3.mono hb2.size)
    have r3 := r2.below hb23
    have z0 := cell_kept (fun hl => hb23.block _ hl) y0
    have z1 := cell_kept (fun hl => hb23.block _ hl) y1
    have zl : (w2.alloc (.cells #[.slice l1 l2 l3] 53)).cell? ⟨w2.heap.size, 0, none⟩ = some (.slice l1 l2 l3) := by rw [World.cell?_alloc_mark]; rfl
    have hmx3 := hmx.below hb3
    have hbA : Below w.heap.size w (w2.alloc (.cells #[.slice l1 l2 l3] 53)) := (hba.trans (hb1.mono hba.size)).trans (hb23.mono (Nat.le_trans hba.size hb1.size))
    have h3 := h1.below ENd.kept hbA
    clear hba hb1 hb2 hb3 hb23 r1 r2 x0 x1 y0 y1 hmx h0 h1
    obtain ⟨bL, hbL⟩ : ∃ b, w2.heap.size = b := ⟨_, rfl⟩
    rw [hbL] at zl
    generalize w2.alloc (.cells #[.slice l1 l2 l3] 53) = W3 at r3 z0 z1 zl hmx3 hbA h3 ⊢
    simp only [hbL]
    clear hbL
    have hzb := lt_of_cell z0
    have hzl := lt_of_cell zl
    have hzz := hbA.size
    rw [HN1.out] at hmx3
    obtain ⟨M, hMe⟩ : ∃ M, lnkd g.nodes g.edges = M := ⟨_, rfl⟩
    rw [hMe] at hmx3
    have HME := Lib.hid hMe
    clear hMe
    have hbE := (Below.refl _ W3).alloc (Nat.le_refl _) (.cells #[] 55)
    have hR0 : Rws W3.heap.size (W3.alloc (.cells #[] 55)) (.slice (some ⟨W3.heap.size, 0, none⟩) 0 0) 0 n1 (fun _ => 0) (fun _ _ => false) :=
      ⟨⟨rfl, .inr ⟨W3.heap.size, 0, #[], rfl, Nat.le_refl _, heap_alloc_new _ _, by simp, by unfold maxLen; simp, rfl, rfl⟩⟩, fun i hi => by omega, fun i hi => by omega, fun i hi => by omega⟩
    go_upto_region 5 with fail
    go_upto_region 6 with fail
    generalize W3.alloc (.cells #[] 55) = W4 at hbE hR0 ⊢
    obtain ⟨gB, hgB⟩ : ∃ b, W3.heap.size = b := ⟨_, rfl⟩
    rw [hgB] at hR0 hbE hzb hzl hzz
    simp only [hgB]
    have HGB := Lib.hid hgB
    clear hgB
    go_loopw [4, 5] (fun sv iv wr => ∃ (k : Nat) (gt : Nat → Nat) (t : Nat → Nat → Bool), k ≤ n1 ∧ iv = .int .i64 k ∧ Rws gB wr sv k n1 gt t ∧ Below gB W3 wr ∧ ∀ i, i < k → ∀ j, j < n1 → (t i j = true ↔ Rch n1 M i j)) (fun _ iv wr => n1 - (intOf iv).toNat)
    case atStart => exact ⟨0, _, _, by omega, rfl, hR0, hbE, fun i hi => by omega⟩
    case round =>
      clear hR0 hbE
      obtain ⟨k, gt, t, hk, rfl, hR, hbw, ht⟩ := hrel
      have hbw' : Below W3.heap.size W3 wr := by rw [HGB.out]; exact hbw
      have q0 := cell_kept (fun hl => hbw'.block _ hl) z0
      have ql := cell_kept (fun hl => hbw'.block _ hl) zl
      have hsz : gB ≤ wr.heap.size := by have := hbw.size; rw [HGB.out] at this; exact this
      obtain ⟨u1, u3, rfl⟩ := own_shape' hR.own
      by_cases hlt : k < n1
      · have f0 : decide ((k : Int) < n1) = true := decide_eq_true (by omega)
        have f0' : decide (k < n1) = true := decide_eq_true hlt
        have hlt2 : (k : Int) < n1 := by omega
        have qla : ∀ o, (wr.alloc o).cell? ⟨bL, 0, none⟩ = some (.slice l1 l2 l3) := fun o => cell_kept (fun hl => ((Below.refl _ wr).alloc (Nat.le_refl _) o).block _ hl) ql
        have hbG : Below wr.heap.size wr (wr.drew.alloc (.cells CG 4)) := (below_drew wr).alloc (Nat.le_refl _) _
        have hcl : Calls Tryz.prog 35 #[.agg #[.slice l1 l2 l3], .int .i64 k, .slice (some ⟨wr.heap.size, 0, none⟩) n1 n1] (wr.drew.alloc (.cells CG 4)) (ReachR n1 M k (wr.drew.alloc (.cells CG 4))) :=
          reach_any (wr.drew.alloc (.cells CG 4)) w1.heap.size n1 (by omega) (.slice l1 l2 l3) gs M (hmx3.below (hbw'.trans (hbG.mono hbw'.size))) k hlt wr.heap.size n1 (fun j hj => by
            show (wr.alloc (.cells CG 4)).cell? ⟨wr.heap.size, j, none⟩ = _
            rw [World.cell?_alloc_mark]; exact hCGb j hj)
        go_upto_region 8 with fail
        go_region_law (first
          | (go_simp; go_at_call 35; refine hcl.mono ?_; rintro e w5 ⟨gS, s, rfl, hgS, hsee, hrch, hb5⟩; have hbH := hbG.trans (hb5.mono hbG.size); have hR5 := hR.below hbH; have hw5 := hbH.size; have hgS1 := Nat.le_trans hbG.size hgS; have hgSl : gS < w5.heap.size := lt_of_cell (hsee 0 (by omega)))
          | (refine step_append_lies _ (by rfl) (.tmp 23) (.tmp 31) 51 (by rfl) gB 55 i0 (.slice none 0 0) 1 24 Tryz.underlying51 hi0 hz0 hz1 hz2 rfl (by decide) (.slice u1 k u3) k ((List.range k).map (rowV gt n1)) (by rfl) (hR5.own.alloc _) ⟨_, 0, none⟩ 1 1 [.slice (some ⟨gS, 0, none⟩) n1 n1] (by rfl) rfl (World.news_of_block (new_block (by simp) _ _)) (by intro u hu; simp at hu; rcases hu with rfl; rfl) (by decide) (by unfold maxLen; omega) (by omega) (by simp <;> omega) _ rfl ?_; intro g6 cap w6 hown6 hgrow6 hat6 hlt6; have hgrow6 : World.grownBy _ w6 (Value.slice u1 k u3).ownBlock := hgrow6))
        all_goals
          have hbS : Below w5.heap.size w5 (w5.alloc (.cells #[.slice (some ⟨gS, 0, none⟩) n1 n1] 55)) := (Below.refl _ w5).alloc (Nat.le_refl _) _
          have hR6 := hR.more (t := s) (hbH.trans (hbS.mono hw5)) hgS1 (by have := hgSl; simp; omega) (fun j hj => cell_kept (fun hl => hbS.block _ hl) (hsee j hj)) hown6 hgrow6 hat6
          have hbK : Below gB W3 w6 := ((hbw.trans (hbH.mono hsz)).trans (hbS.mono (Nat.le_trans hsz hw5))).grown hgrow6 (by have := hbS.size; omega) (fun q hq => (hR.own.lt q hq).1)
          have ht6 : ∀ i, i < k + 1 → ∀ j, j < n1 → ((if i = k then s j else t i j) = true ↔ Rch n1 M i j) := fun i hi j hj => by
            by_cases e : i = k
            · subst e; rw [if_pos rfl]; exact hrch j hj
            · rw [if_neg e]; exact ht i (by omega) j hj
          clear hcl hsee hrch hR hR5 hbH hb5 hown6 hgrow6 hat6 hlt6 ql q0 qla hbG hbS hgS hbw hbw'
          go_wp2_with fail
          go_round
          case rel => exact ⟨k + 1, _, _, by omega, by go_num, hR6, hbK, ht6⟩
          case measure => first | (simp [intOf]; done) | (simp [intOf]; omega)
      · have hk3 : k = n1 := by omega
        subst hk3
        have f0 : decide ((k : Int) < k) = false := decide_eq_false (by omega)
        have hsz0 : wr.heap.size < (wr.alloc (.cells CN 2)).heap.size := by simp
        have hK0 : Wk wr (wr.alloc (.cells CN 2)) k (fun _ => 0) := ⟨(Below.refl _ wr).alloc (Nat.le_refl _) _, fun j hj => by rw [World.cell?_alloc_mark]; exact hCNb j hj, fun o => by rw [World.frozen?_alloc_mark]; simp⟩
        go_upto_region 11 with fail
        generalize wr.alloc (.cells CN 2) = W5 at hK0 hsz0 ⊢
        have r5 := r3.below hbw'
        have h5 := h3.below ENd.kept hbw'
        have p0 := q0
        have p1 := cell_kept (fun hl => hbw'.block _ hl) z1
        have hbB := hbA.trans (hbw'.mono hbA.size)
        clear r3 h3 z0 z1 zl hmx3 hbA hbw hbw' ql q0 f0
        obtain ⟨Wq, rfl⟩ : ∃ W, W = wr := ⟨wr, rfl⟩
        go_loopw [7, 8] (fun iv _ w7 => ∃ (i : Nat) (nums : Nat → Int), i ≤ k ∧ iv = .int .i64 i ∧ Wk Wq w7 k nums ∧ Wq.heap.size < w7.heap.size ∧ ∀ (j : Nat) (hj : j < g.nodes.length), j < i → Led g.edges g.nodes[j].id (nums j)) (fun iv _ _ => k - (intOf iv).toNat)
        case atStart => exact ⟨0, _, by omega, rfl, hK0, hsz0, fun j hj q => by omega⟩
        case round =>
          clear hK0 hsz0
          obtain ⟨i, nums, hik, rfl, K, hszi, hnums⟩ := hrel
          by_cases hlti : i < k
          · have g0 : decide ((i : Int) < k) = true := decide_eq_true (by omega)
            have g0' : decide (i < k) = true := decide_eq_true hlti
            have g0'' : (i : Int) < k := by omega
            have hin2 : (i : Int) ≤ 200 := by omega
            go_upto_region 14 with fail
            go_loopw [8] (fun kk w8 => ∃ (m : Nat) (x : Int), m ≤ k ∧ kk = .int .i64 ((m : Int) - 1) ∧ Wk Wq w8 k (fun j => if j = i then x else nums j) ∧ Wq.heap.size < w8.heap.size ∧ Low g.nodes (fun q => t i q && t q i) m x) (fun kk _ => (intOf kk + 1).toNat)
            case atStart =>
              refine ⟨k, nums i, Nat.le_refl _, by first | rfl | go_num, ?_, hszi, HN1.out ▸ Low.none _ _ _⟩
              rw [show (fun j => if j = i then nums i else nums j) = nums by funext j; split; rename_i e; rw [e]; rfl]
              exact K
            case round =>
              clear K hszi
              obtain ⟨m, x, hm, rfl, K, hszi, hlow⟩ := hrel
              cases m with
              | zero =>
                have hL := low_led hw hlow (by rw [HN1.out]; exact hlti) (fun a b ha hb => by rw [HN1.out, HME.out]; exact ht a (by rw [← HN1.out]; exact ha) b (by rw [← HN1.out]; exact hb))
                go_wp2_with fail
                go_round
                case rel =>
                  refine ⟨i + 1, _, by omega, by go_num, K, hszi, fun j hj q => ?_⟩
                  by_cases e : j = i
                  · subst e; simpa using hL
                  · simpa [e] using hnums j hj (by omega)
                case measure => first | (simp [intOf]; done) | (simp [intOf]; omega)
              | succ m =>
                have e0 : ((m + 1 : Nat) : Int) - 1 = m := by omega
                have f1 : decide ((0 : Int) ≤ m) = true := decide_eq_true (by omega)
                have hm' : (m : Int) < k := by omega
                have hmn : m < k := hm
                have hmG : m < g.nodes.length := by rw [HN1.out]; exact hmn
                have hRw := hR.below K.below
                obtain ⟨gO, cO, hEq, _, hrow⟩ := hRw.rowcell hlti
                injection hEq with e1 _ e3
                subst e1
                subst e3
                have zr1 := hrow i hlti
                have zr2 := hrow m hmn
                have zt1 := hRw.cell i hlti m hmn
                have zt2 := hRw.cell m hmn i hlti
                have q0 := cell_kept (fun hl => K.below.block _ hl) p0
                have hr := h5.below ENd.kept K.below
                obtain ⟨b, o, pp1, d1, pp2, d2, rfl, hS0, hc, hcl, hcf, _, _⟩ := RNd.at hr (by rw [HN1.out]; exact hmn)
                unfold rowV at zr1 zr2
                clear hcl hcf hrow hr
                rw [e0]
                cases h1 : t i m with
                | false =>
                  rw [h1] at zt1
                  have hN := hlow.skip (by show (t i m && t m i) = false; rw [h1]; rfl)
                  clear hRw h1 zt2 zr2
                  go_wp2_with fail
                  go_round
                  case rel => exact ⟨m, x, by omega, by go_num, K, hszi, hN⟩
                  case measure => first | (simp [intOf]; done) | (simp [intOf]; omega)
                | true =>
                  rw [h1] at zt1
                  cases h2 : t m i with
                  | false =>
                    rw [h2] at zt2
                    have hN := hlow.skip (by show (t i m && t m i) = false; rw [h1, h2]; rfl)
                    clear hRw h1 h2
                    go_wp2_with fail
                    go_round
                    case rel => exact ⟨m, x, by omega, by go_num, K, hszi, hN⟩
                    case measure => first | (simp [intOf]; done) | (simp [intOf]; omega)
                  | true =>
                    rw [h2] at zt2
                    have hN := Low.take (ids := g.nodes) (s := fun q => t i q && t q i) (m := m) (by rw [HN1.out]; exact hmn) (by show (t i m && t m i) = true; rw [h1, h2]; rfl)
                    have z5 := K.num i hlti
                    have z6 := K.fro i
                    have hK := K.put hlti g.nodes[m].id
                    obtain ⟨xi, hxi⟩ : ∃ xi, g.nodes[m].id = xi := ⟨_, rfl⟩
                    rw [hxi] at hc hN hK
                    clear hxi hRw h1 h2
                    go_wp2_with fail
                    go_round
                    case rel =>
                      refine ⟨m, xi, by omega, by go_num, ?_, by simp [World.setCell]; exact hszi, hN⟩
                      rw [show (fun j => if j = i then xi else nums j) = (fun j => if j = i then xi else if j = i then x else nums j) by funext j; split <;> rfl]
                      exact hK
                    case measure => first | (simp [intOf]; done) | (simp [intOf]; omega)
          · have hi3 : i = k := by omega
            subst hi3
            have g0 : decide ((i : Int) < i) = false := decide_eq_false (by omega)
            obtain ⟨f, hf, hfn⟩ := strong_f hw nums (fun j hj => hnums j hj (by rw [← HN1.out]; exact hj))
            have q0 := cell_kept (fun hl => K.below.block _ hl) p0
            have q1 := cell_kept (fun hl => K.below.block _ hl) p1
            have rr := r5.below K.below
            have hcl : Calls Tryz.prog 36 #[.agg #[.slice a1 i c1, .slice a2 n2 c2], .slice (some ⟨Wq.heap.size, 0, none⟩) i i] wr (PtsR (ptsOf g.nodes f) wr) := by
              have := sparts_any wr S _ g rr hlen Wq.heap.size i f (fun j hj => by rw [← hfn j hj]; exact K.num j (by rw [← HN1.out]; exact hj))
              rwa [HN1.out] at this
            go_wp2_with (go_at_call 36; refine hcl.mono ?_; rintro e w6 ⟨vv, rfl, pp1, pp2, hb6⟩)
            go_ret
            have hbW := hbB.trans (K.below.mono hbB.size)
            exact ⟨_, ⟨(fun h => by rw [hg] at h; cases h), (fun _ => ⟨f, hf, rfl⟩)⟩, vv, rfl, pp1.mono EPt.mono (fun b hb => Nat.le_trans hbW.size hb), Own.low pp2 hbW.size, hbW.trans (hb6.mono hbW.size)⟩
end Go.Proofs.YtbaljljlahhkfaaGreatDoor
