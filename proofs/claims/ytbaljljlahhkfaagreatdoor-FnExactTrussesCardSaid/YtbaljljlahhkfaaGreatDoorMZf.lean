/- Texts of one proof, joined in their order: each bears its own word of what it holds and on what condition. -/
import Derived.Test.YtbaljljlahhkfaaGreatDoorMZe
import Derived.Test.YtbaljljlahhkfaaGreatDoorML
import Derived.Test.YtbaljljlahhkfaaGreatDoorMWd
set_option linter.unusedVariables false
set_option linter.unusedSimpArgs false
/- The specification's Trusses, whole. No condition on the graph. -/
set_option linter.unusedVariables false
set_option linter.unusedSimpArgs false
namespace Go.Proofs.YtbaljljlahhkfaaGreatDoor
open Go.RowKit Go.Sort

theorem own_shapeT {w : World} {base : Nat} {e : TypeId} {sz : Nat} {v : Value} {n : Nat} {xs : List Value} (h : w.ownsRow base e sz v n xs) : ∃ a c, v = .slice a n c := by
  rcases h.2 with ⟨q, hn⟩ | ⟨g, cap, cur, q, _⟩
  · subst hn; exact ⟨_, _, q⟩
  · exact ⟨_, _, q⟩
set_option maxHeartbeats 4000000 in
set_option maxRecDepth 100000 in
theorem struss_any (w : World) (S0 : Nat → Prop) (v : Value) (g : Gr) (h : RGr w S0 v g) : Calls Tryz.prog 19 #[v] w (TrussR g w) := by
  have h0 := h.within
  obtain ⟨v1, v2, rfl, h1, h2⟩ := h
  obtain ⟨a1, c1, rfl⟩ := h1.shape
  obtain ⟨a2, c2, rfl⟩ := h2.shape
  obtain ⟨n1, hn1⟩ : ∃ n, g.nodes.length = n := ⟨_, rfl⟩
  obtain ⟨n2, hn2⟩ : ∃ n, g.edges.length = n := ⟨_, rfl⟩
  have HN1 := Lib.hid hn1
  have HN2 := Lib.hid hn2
  rw [hn1, hn2] at h0
  rw [hn1, hn2]
  clear h1 h2 hn1 hn2
  have hbb := (Below.refl _ w).alloc (Nat.le_refl _) (.cells #[.slice a1 n1 c1, .slice a2 n2 c2] 32)
  have hba := hbb.alloc hbb.size (.cells #[] 72)
  have e1 : (w.alloc (.cells #[.slice a1 n1 c1, .slice a2 n2 c2] 32)).heap.size = w.heap.size + 1 := by simp
  have ho0 : ((w.alloc (.cells #[.slice a1 n1 c1, .slice a2 n2 c2] 32)).alloc (.cells #[] 72)).ownsRow (w.heap.size + 1) 72 2 (.slice (some ⟨w.heap.size + 1, 0, none⟩) 0 0) 0 [] := ⟨rfl, .inr ⟨w.heap.size + 1, 0, #[], rfl, Nat.le_refl _, by rw [← e1]; exact heap_alloc_new _ _, by simp, by unfold maxLen; simp, rfl, rfl⟩⟩
  have r1 := h0.below hba
  have x0 : ((w.alloc (.cells #[.slice a1 n1 c1, .slice a2 n2 c2] 32)).alloc (.cells #[] 72)).cell? ⟨w.heap.size, 0, none⟩ = some (.slice a1 n1 c1) := cell_alloc (by rw [World.cell?_alloc_mark]; rfl) _
  have x1 : ((w.alloc (.cells #[.slice a1 n1 c1, .slice a2 n2 c2] 32)).alloc (.cells #[] 72)).cell? ⟨w.heap.size, 1, none⟩ = some (.slice a2 n2 c2) := cell_alloc (by rw [World.cell?_alloc_mark]; rfl) _
  clear e1 hbb
  cases hg : gOk g with
  | false =>
    go_enter Tryz.func19, Tryz.ntmps19
    go_wp2_with (go_at_call 33; refine (fault_bad _ _ _ _ hg r1).mono ?_; rintro e w1 ⟨rfl, hb1⟩)
    go_ret
    exact ⟨[], ⟨(fun _ => rfl), (fun h => by rw [hg] at h; cases h)⟩, PtsR.nil _ _ _ _ (hba.trans (hb1.mono hba.size))⟩
  | true =>
    have hw := gw_of hg
    have hlen := (gOk_parts hg).1
    have hlen' : (n1 : Int) ≤ 200 := by have := HN1.out; omega
    obtain ⟨CN, hCN, hCNb, hmkN⟩ := make_one (T := 39) (E := 2) (z := .int .i64 0) (by' := 8) Tryz.underlying39 (by kernel_rfl) rfl (by decide) n1 (by omega)
    obtain ⟨i0, hi0, hi0z, hi01, hi02⟩ := info_parts (show (Tryz.prog.info? 39).map (fun i => (i.zero, i.size, i.bytes)) = some (some (.slice none 0 0), 1, 24) by kernel_rfl)
    obtain ⟨j0, hj0, hj0z, hj01, hj02⟩ := info_parts (show (Tryz.prog.info? 72).map (fun i => (i.zero, i.size, i.bytes)) = some (some (.agg #[.int .i64 0, .int .i64 0]), 2, 16) by kernel_rfl)
    go_enter Tryz.func19, Tryz.ntmps19
    go_upto_region 5 with (first
      | (go_at_call 33; refine (fault_good _ _ _ _ hg r1).mono ?_; rintro e w1 ⟨rfl, hb1⟩; have r2 := r1.below hb1; have y0 := cell_kept (fun hl => hb1.block _ hl) x0; have y1 := cell_kept (fun hl => hb1.block _ hl) x1)
      | (go_at_call 34; refine (linked_any _ _ _ g r2 hg).mono ?_; rintro e w2 ⟨vL, gs, rfl, hmx, hb2⟩; obtain ⟨l1, l2, l3, rfl⟩ := hmx.shape))
    have hb3 := (Below.refl _ w2).alloc (Nat.le_refl _) (.cells #[.slice l1 l2 l3] 53)
    have hb23 := hb2.trans (hb3.mono hb2.size)
    have r3 := r2.below hb23
    have z0 := cell_kept (fun hl => hb23.block _ hl) y0
    have z1 := cell_kept (fun hl => hb23.block _ hl) y1
    have zl : (w2.alloc (.cells #[.slice l1 l2 l3] 53)).cell? ⟨w2.heap.size, 0, none⟩ = some (.slice l1 l2 l3) := by rw [World.cell?_alloc_mark]; rfl
    have hmx3 := hmx.below hb3
    have hgsL : ∀ i, i < n1 → gs i < w2.heap.size := fun i hi => hmx.hi i (by rw [HN1.out]; exact hi)
    have hgs1 : ∀ i, i < n1 → w1.heap.size ≤ gs i := fun i hi => hmx.lo i (by rw [HN1.out]; exact hi)
    have hb13 : Below w1.heap.size w1 (w2.alloc (.cells #[.slice l1 l2 l3] 53)) := hb23
    have hw1s : w.heap.size + 2 ≤ w1.heap.size := by have := hb1.size; simp at this; omega
    have hbA : Below w.heap.size w (w2.alloc (.cells #[.slice l1 l2 l3] 53)) := (hba.trans (hb1.mono hba.size)).trans (hb23.mono (Nat.le_trans hba.size hb1.size))
    have ho3 : (w2.alloc (.cells #[.slice l1 l2 l3] 53)).ownsRow (w.heap.size + 1) 72 2 (.slice (some ⟨w.heap.size + 1, 0, none⟩) 0 0) 0 [] := own_kept (own_kept ho0 (fun b _ hl => hb1.block b hl)) (fun b _ hl => hb23.block b hl)
    clear hba hb1 hb2 hb3 hb23 r1 r2 x0 x1 y0 y1 hmx h0 ho0
    obtain ⟨bL, hbL⟩ : ∃ b, w2.heap.size = b := ⟨_, rfl⟩
    rw [hbL] at zl hgsL
    generalize w2.alloc (.cells #[.slice l1 l2 l3] 53) = W3 at r3 z0 z1 zl hmx3 hbA hb13 ho3 ⊢
    simp only [hbL]
    clear hbL
    rw [HN1.out] at hmx3
    obtain ⟨M0, hMe⟩ : ∃ M, lnks g.nodes g.edges = M := ⟨_, rfl⟩
    rw [hMe] at hmx3
    have HME := Lib.hid hMe
    clear hMe
    obtain ⟨gB, hgB⟩ : ∃ b, W3.heap.size = b := ⟨_, rfl⟩
    obtain ⟨bg, hbg⟩ : ∃ b, w.heap.size = b := ⟨_, rfl⟩
    have hzl := lt_of_cell zl
    have hzb := lt_of_cell z0
    have hb13s := hb13.size
    obtain ⟨gO, hgO⟩ : ∃ gO, 0 < n1 → l1 = some ⟨gO, 0, none⟩ ∧ n1 = l2 ∧ gO < gB ∧ (∀ i, i < n1 → gO ≠ gs i) ∧ ∀ i, i < n1 → W3.cell? ⟨gO, i, none⟩ = some (rowV gs n1 i) := by
      rcases Nat.eq_zero_or_pos n1 with q | q
      · exact ⟨0, fun k => by omega⟩
      · obtain ⟨gO, cO, hE, hrow⟩ := hmx3.rowcell q
        injection hE with q1 q2 q3
        refine ⟨gO, fun _ => ⟨q1, q2.symm, by rw [← hgB]; exact lt_of_cell (hrow 0 q), fun i hi e => hmx3.out i hi (by rw [q1, e]; rfl), hrow⟩⟩
    have hbE := (Below.refl _ W3).alloc (Nat.le_refl _) (.cells #[] 39)
    have hR0 : Rwi W3.heap.size (W3.alloc (.cells #[] 39)) (.slice (some ⟨W3.heap.size, 0, none⟩) 0 0) 0 n1 (fun _ => 0) :=
      ⟨⟨rfl, .inr ⟨W3.heap.size, 0, #[], rfl, Nat.le_refl _, heap_alloc_new _ _, by simp, by unfold maxLen; simp, rfl, rfl⟩⟩, fun i hi => by omega, fun i hi => by omega, fun i hi => by omega, fun i hi => by omega, fun i hi => by omega, fun i j hi => by omega⟩
    go_upto_region 8 with fail
    generalize W3.alloc (.cells #[] 39) = W4 at hbE hR0 ⊢
    rw [hgB] at hR0 hbE hzb hzl hb13s
    rw [hbg] at z0 z1 hzb hw1s ho3
    try simp only [hgB, hbg]
    have HGB := Lib.hid hgB
    have HBG := Lib.hid hbg
    clear hgB hbg
    go_loopw [5, 6, 7, 8] (fun nv lv iv _ wr => ∃ (i left : Nat) (gt : Nat → Nat), i ≤ n1 ∧ iv = .int .i64 i ∧ lv = .int .i64 left ∧ Rwi gB wr nv i n1 gt ∧ Below gB W3 wr ∧ CardOf (fun p : Nat × Nat => p.2 < p.1 ∧ p.1 < i ∧ M0 p.1 p.2 = true) left ∧ left ≤ 200 * i) (fun _ _ iv _ wr => n1 - (intOf iv).toNat)
    case atStart => exact ⟨0, 0, _, by omega, rfl, rfl, hR0, hbE, CardOf.none (fun p q => by omega), by omega⟩
    case round =>
      clear hR0 hbE
      obtain ⟨i, left, gt, hi, rfl, rfl, hR, hbw, hC, hl200⟩ := hrel
      have hbw' : Below W3.heap.size W3 wr := by rw [HGB.out]; exact hbw
      have q0 := cell_kept (fun hl => hbw'.block _ hl) z0
      have ql := cell_kept (fun hl => hbw'.block _ hl) zl
      have hsz : gB ≤ wr.heap.size := by have := hbw.size; rw [HGB.out] at this; exact this
      obtain ⟨u1, u3, rfl⟩ := own_shapeT hR.own
      by_cases hlt : i < n1
      · have f0 : decide ((i : Int) < n1) = true := decide_eq_true (by omega)
        have f0' : decide (i < n1) = true := decide_eq_true hlt
        have hlt2 : (i : Int) < n1 := by omega
        have hle8 : (left : Int) ≤ 40000 := by omega
        have hb2 : Below wr.heap.size wr ((wr.alloc (.cells CN 2)).alloc (.cells #[.slice (some ⟨wr.heap.size, 0, none⟩) n1 n1] 39)) := ((Below.refl _ wr).alloc (Nat.le_refl _) _).alloc (by simp) _
        have hb1' : Below (wr.alloc (.cells CN 2)).heap.size (wr.alloc (.cells CN 2)) ((wr.alloc (.cells CN 2)).alloc (.cells #[.slice (some ⟨wr.heap.size, 0, none⟩) n1 n1] 39)) := (Below.refl _ _).alloc (Nat.le_refl _) _
        go_upto_region 11 with (at_builtin; refine wpList_append_lies _ rfl (.tmp 29) (.tmp 34) 81 rfl gB 39 i0 (.slice none 0 0) 1 24 Tryz.underlying81 hi0 hi0z hi01 hi02 rfl (by decide) (.slice u1 i u3) i ((List.range i).map (rowV gt n1)) rfl ((hR.own.alloc _).alloc _) ⟨_, 0, none⟩ 1 1 [.slice (some ⟨wr.heap.size, 0, none⟩) n1 n1] rfl rfl (World.news_of_block (new_block (by simp) _ _)) (by intro u hu; simp at hu; rcases hu with rfl; rfl) (by decide) (by unfold maxLen; omega) (by omega) (by simp; omega) _ rfl ?_; intro g6 cap w6 hown6 hgrow6 hat6 hlt6; have hgrow6 : World.grownBy _ w6 (Value.slice u1 i u3).ownBlock := hgrow6)
        have hR6 := hR.more hb2 hsz (Nat.le_refl _) (by simp; omega) (fun j hj => cell_kept (fun hl => hb1'.block _ hl) (by rw [World.cell?_alloc_mark]; exact hCNb j hj)) (fun o => (World.frozen?_of_block (a := ⟨wr.heap.size, o, none⟩) (hb1'.block _ (by simp))).trans (by rw [World.frozen?_alloc_mark]; simp)) hown6 hgrow6 hat6
        have hb6 : Below gB W3 w6 := (hbw.trans (hb2.mono hsz)).grown hgrow6 (by have := hb2.size; omega) (fun q hq => (hR.own.lt q hq).1)
        have hb6' : Below W3.heap.size W3 w6 := by rw [HGB.out]; exact hb6
        have ql6 := cell_kept (fun hl => hb6'.block _ hl) zl
        obtain ⟨e1, e2, hgOB, hgOs, hgOr⟩ := hgO (by omega)
        subst e1
        subst e2
        have hrow6 : w6.cell? ⟨gO, i, none⟩ = some (rowV gs n1 i) := cell_kept (fun hl => hb6'.block _ hl) (hgOr i hlt)
        unfold rowV at hrow6
        have hmx6 := hmx3.below hb6'
        have hC2 : CardOf (fun p : Nat × Nat => p.2 < p.1 ∧ (p.1 < i ∨ (p.1 = i ∧ p.2 < 0)) ∧ M0 p.1 p.2 = true) left := hC.congr fun p => by
          constructor
          · rintro ⟨q1, q2, q3⟩; exact ⟨q1, .inl q2, q3⟩
          · rintro ⟨q1, q2 | q2, q3⟩
            · exact ⟨q1, q2, q3⟩
            · omega
        clear hR hown6 hgrow6 hat6 hlt6 hb1' hb2 hbw' hbw q0 ql hC hgOr
        go_upto_region 11 with fail
        go_wp2_with fail
        go_loopw [6, 8] (fun lv kv w7 => ∃ (k left : Nat), k ≤ i ∧ kv = .int .i64 k ∧ lv = .int .i64 left ∧ w7 = w6 ∧ CardOf (fun p : Nat × Nat => p.2 < p.1 ∧ (p.1 < i ∨ (p.1 = i ∧ p.2 < k)) ∧ M0 p.1 p.2 = true) left ∧ left ≤ 200 * i + k) (fun _ kv _ => i - (intOf kv).toNat)
        case atStart => exact ⟨0, left, by omega, by first | rfl | go_num, rfl, rfl, hC2, by omega⟩
        case round =>
          clear hC2
          obtain ⟨k, left, hk, rfl, rfl, rfl, hC, hl200⟩ := hrel
          by_cases hlk : k < i
          · have g0 : decide ((k : Int) < i) = true := decide_eq_true (by omega)
            have g0' : decide (k < i) = true := decide_eq_true hlk
            have g0'' : (k : Int) < i := by omega
            have hkn : (k : Int) < n1 := by omega
            have hle8 : (left : Int) ≤ 50000 := by omega
            have z4 := hmx6.cell i hlt k (by omega)
            cases hm : M0 i k with
            | false =>
              rw [hm] at z4
              have hC3 : CardOf (fun p : Nat × Nat => p.2 < p.1 ∧ (p.1 < i ∨ (p.1 = i ∧ p.2 < k + 1)) ∧ M0 p.1 p.2 = true) left := hC.congr fun p => by
                constructor
                · rintro ⟨q1, q2, q3⟩; exact ⟨q1, q2.imp_right (fun q => ⟨q.1, by omega⟩), q3⟩
                · rintro ⟨q1, q2 | ⟨q2, q4⟩, q3⟩
                  · exact ⟨q1, .inl q2, q3⟩
                  · refine ⟨q1, .inr ⟨q2, ?_⟩, q3⟩
                    by_cases e : p.2 = k
                    · rw [q2, e, hm] at q3; cases q3
                    · omega
              clear hC hm
              go_wp2_with fail
              go_round
              case rel => exact ⟨k + 1, left, by omega, by first | rfl | go_num, rfl, by first | rfl | trivial, hC3, by omega⟩
              case measure => first | (simp [intOf]; done) | (simp [intOf]; omega)
            | true =>
              rw [hm] at z4
              have hC3 : CardOf (fun p : Nat × Nat => p.2 < p.1 ∧ (p.1 < i ∨ (p.1 = i ∧ p.2 < k + 1)) ∧ M0 p.1 p.2 = true) (left + 1) := hC.more (a := (i, k)) (by rintro ⟨_, q | ⟨_, q⟩, _⟩ <;> simp at q) fun p => by
                obtain ⟨p1, p2⟩ := p
                simp only [Prod.mk.injEq]
                constructor
                · rintro ⟨q1, q2 | ⟨q2, q4⟩, q3⟩
                  · exact .inr ⟨q1, .inl q2, q3⟩
                  · by_cases e : p2 = k
                    · exact .inl ⟨q2, e⟩
                    · exact .inr ⟨q1, .inr ⟨q2, by omega⟩, q3⟩
                · rintro (⟨rfl, rfl⟩ | ⟨q1, q2, q3⟩)
                  · exact ⟨hlk, .inr ⟨rfl, by omega⟩, hm⟩
                  · exact ⟨q1, q2.imp_right (fun q => ⟨q.1, by omega⟩), q3⟩
              clear hC hm
              go_wp2_with fail
              go_round
              case rel => exact ⟨k + 1, left + 1, by omega, by first | rfl | go_num, by go_num, by first | rfl | trivial, hC3, by omega⟩
              case measure => first | (simp [intOf]; done) | (simp [intOf]; omega)
          · have hk3 : k = i := by omega
            subst hk3
            have g0 : decide ((k : Int) < k) = false := decide_eq_false (by omega)
            have hC3 : CardOf (fun p : Nat × Nat => p.2 < p.1 ∧ p.1 < k + 1 ∧ M0 p.1 p.2 = true) left := hC.congr fun p => by
              constructor
              · rintro ⟨q1, q2, q3⟩; exact ⟨q1, by omega, q3⟩
              · rintro ⟨q1, q2, q3⟩; exact ⟨q1, by omega, q3⟩
            clear hC
            go_wp2_with fail
            go_round
            case rel => exact ⟨k + 1, left, _, by omega, by go_num, rfl, hR6, hb6, hC3, by omega⟩
            case measure => first | (simp [intOf]; done) | (simp [intOf]; omega)
      · have hi3 : i = n1 := by omega
        subst hi3
        have f0 : decide ((i : Int) < i) = false := decide_eq_false (by omega)
        obtain ⟨hO, hhO⟩ : ∃ hO, 0 < i → u1 = some ⟨hO, 0, none⟩ ∧ gB ≤ hO ∧ (∀ j, j < i → hO ≠ gt j) ∧ ∀ j, j < i → wr.cell? ⟨hO, j, none⟩ = some (rowV gt i j) := by
          rcases Nat.eq_zero_or_pos i with q | q
          · exact ⟨0, fun k => by omega⟩
          · obtain ⟨g', c', hE, k1, k2, k3, k4⟩ := hR.rowcell q
            injection hE with q1 q2 q3
            exact ⟨g', fun _ => ⟨q1, k1, k3, k4⟩⟩
        have hTw : Tw gB i gO gs hO gt := ⟨fun j hj => by have := hgsL j hj; omega, fun q => (hgO q).2.2.1, fun j hj => (hgO (by omega)).2.2.2.1 j hj, fun a b ha hb => hmx3.inj a b ha hb, hR.lo, fun q => (hhO q).2.1, fun j hj => (hhO (by omega)).2.2.1 j hj, hR.inj⟩
        have hT0 : Ts W3 wr gB i gO gs hO gt M0 (fun _ _ => 0) := by
          have hmw := hmx3.below hbw'
          exact ⟨hbw.os, hbw.tape, hbw.output, hbw.size, fun b hb _ => hbw.block b hb, fun j hj => cell_kept (fun hl => hbw'.block _ hl) ((hgO (by omega)).2.2.2.2 j hj), fun a ha b hb => hmw.cell a ha b hb, fun a ha o => hmw.fro a ha o, fun j hj => (hhO (by omega)).2.2.2 j hj, fun a ha b hb => hR.cell a ha b hb, fun a ha o => hR.fro a ha o⟩
        have hP0 := TPk.start hw
        rw [HME.out] at hP0
        have hgO2 : 0 < i → l1 = some ⟨gO, 0, none⟩ ∧ i = l2 := fun q => ⟨(hgO q).1, (hgO q).2.1⟩
        have hhO2 : 0 < i → u1 = some ⟨hO, 0, none⟩ := fun q => (hhO q).1
        have hkeep : ∀ (M : Nat → Nat → Bool) (nums : Nat → Nat → Nat) (u : World), Ts W3 u gB i gO gs hO gt M nums → ∀ b, b < w1.heap.size → u.heap[b]? = W3.heap[b]? := fun M nums u T b hb => T.block b (by omega) (fun j hj e => by have := hgs1 j hj; omega)
        have hqg : ∀ (M : Nat → Nat → Bool) (nums : Nat → Nat → Nat) (u : World), Ts W3 u gB i gO gs hO gt M nums → u.cell? ⟨bg, 0, none⟩ = some (.slice a1 i c1) := fun M nums u T => (World.cell?_of_block (a := ⟨bg, 0, none⟩) (hkeep M nums u T bg (by omega))).trans z0
        have hqe : ∀ (M : Nat → Nat → Bool) (nums : Nat → Nat → Nat) (u : World), Ts W3 u gB i gO gs hO gt M nums → u.cell? ⟨bg, 1, none⟩ = some (.slice a2 n2 c2) := fun M nums u T => (World.cell?_of_block (a := ⟨bg, 1, none⟩) (hkeep M nums u T bg (by omega))).trans z1
        have hql : ∀ (M : Nat → Nat → Bool) (nums : Nat → Nat → Nat) (u : World), Ts W3 u gB i gO gs hO gt M nums → u.cell? ⟨bL, 0, none⟩ = some (.slice l1 l2 l3) := fun M nums u T => (World.cell?_of_block (a := ⟨bL, 0, none⟩) (T.block bL hzl (fun j hj e => by have := hgsL j hj; omega))).trans zl
        have hszT : ∀ (M : Nat → Nat → Bool) (nums : Nat → Nat → Nat) (u : World), Ts W3 u gB i gO gs hO gt M nums → gB ≤ u.heap.size := fun M nums u T => by have := T.size; rw [HGB.out] at this; exact this
        clear hgO hhO hR hbw hbw' hmx3 z0 z1 zl ql
        go_upto_region 16 with fail
        go_wp2_with fail
        clear q0
        go_loopw [6, 9, 10, 11, 12] (fun lv kv _ _ _ w7 => ∃ (t q left : Nat) (M : Nat → Nat → Bool) (nums : Nat → Nat → Nat) (f : Int × Int → Nat), q = t + 2 ∧ kv = .int .i64 q ∧ lv = .int .i64 left ∧ Ts W3 w7 gB i gO gs hO gt M nums ∧ CardOf (LeftP i M) left ∧ TPk g t M nums f ∧ t ≤ i + 1 ∧ left ≤ 40000) (fun _ kv _ _ _ _ => i + 4 - (intOf kv).toNat)
        case atStart => exact ⟨0, 2, left, M0, _, _, rfl, by first | rfl | go_num, rfl, hT0, hC, hP0, by omega, by omega⟩
        case round =>
          clear hT0 hP0 hC hl200
          obtain ⟨t, q, left, M, nums, f, hq, rfl, rfl, T, hC, hP, ht, hl200⟩ := hrel
          have HQ := Lib.hid hq
          have hq1 : (q : Int) ≤ 1000 := by omega
          have hq2 : (2 : Int) ≤ q := by omega
          clear hq
          by_cases hl : 0 < left
          · have g0 : decide ((0 : Int) < left) = true := decide_eq_true (by omega)
            have g0' : decide (0 < left) = true := decide_eq_true hl
            have g0'' : (0 : Int) < left := by omega
            have hti : t ≤ i := by
              obtain ⟨⟨pa, pb⟩, q1, q2, q3⟩ := hC.pos.1 hl
              have := hP.le hw (a := pa) (b := pb) (by rw [HN1.out]; exact q2) (by rw [HN1.out]; exact Nat.lt_trans q1 q2) q3
              rwa [HN1.out] at this
            obtain ⟨t1, ht1⟩ : ∃ n, t + 1 = n := ⟨_, rfl⟩
            have hw1 : IntKind.i64.wrap ((q : Int) + 1) = (q : Int) + 1 := wrap64_of _ (by omega) (by omega)
            have hw2 : IntKind.i64.wrap ((q : Int) - 1) = (t1 : Int) := by rw [show (q : Int) - 1 = t1 by have := HQ.out; omega]; exact wrap64_of _ (by omega) (by omega)
            have HT1 := Lib.hid ht1
            clear ht1
            go_upto_region 19 with fail
            go_wp2_with fail
            go_loopw [6, 10, 11, 12] (fun lv mv _ _ w7 => ∃ (more : Bool) (left : Nat) (M : Nat → Nat → Bool) (nums : Nat → Nat → Nat) (f : Int × Int → Nat), lv = .int .i64 left ∧ mv = .bool more ∧ Ts W3 w7 gB i gO gs hO gt M nums ∧ CardOf (LeftP i M) left ∧ TPk g t M nums f ∧ left ≤ 40000 ∧ (more = false → TStab i M t i 0)) (fun lv mv _ _ _ => 2 * (intOf lv).toNat + moreOf mv)
            case atStart => exact ⟨true, left, M, nums, f, rfl, rfl, T, hC, hP, hl200, fun q => by cases q⟩
            case round =>
              clear T hC hP hl g0 g0' g0'' hl200
              obtain ⟨more, left, M, nums, f, rfl, rfl, T, hC, hP, hl200, hst⟩ := hrel
              cases more with
              | false =>
                have hP2 := hP.next hw (by rw [HN1.out]; exact hst rfl)
                clear hst
                go_wp2_with fail
                go_round
                case rel => exact ⟨t + 1, q + 1, left, M, nums, f, by rw [HQ.out], by first | rfl | go_num, rfl, T, hC, hP2, by omega, hl200⟩
                case measure => have := HQ.out; first | (simp [intOf]; done) | (simp [intOf]; omega)
              | true =>
                clear hst
                go_upto_region 22 with fail
                go_wp2_with fail
                go_loopw [6, 10, 11, 12] (fun lv mv av _ w7 => ∃ (a : Nat) (more : Bool) (left' : Nat) (M : Nat → Nat → Bool) (nums : Nat → Nat → Nat) (f : Int × Int → Nat), a ≤ i ∧ av = .int .i64 a ∧ lv = .int .i64 left' ∧ mv = .bool more ∧ Ts W3 w7 gB i gO gs hO gt M nums ∧ CardOf (LeftP i M) left' ∧ TPk g t M nums f ∧ (more = false → TStab i M t a 0) ∧ left' ≤ left ∧ (more = true → left' < left)) (fun _ _ av _ _ => i - (intOf av).toNat)
                case atStart => exact ⟨0, false, left, M, nums, f, by omega, rfl, rfl, rfl, T, hC, hP, fun _ x y _ _ q => by omega, Nat.le_refl _, fun q => by cases q⟩
                case round =>
                  clear T hC hP
                  obtain ⟨a, more, lf, M, nums, f, hai, rfl, rfl, rfl, T, hC, hP, hst, hle, hltl⟩ := hrel
                  have qg := hqg M nums wr T
                  by_cases hlta : a < i
                  · have k0 : decide ((a : Int) < i) = true := decide_eq_true (by omega)
                    have k0' : decide (a < i) = true := decide_eq_true hlta
                    have k0'' : (a : Int) < i := by omega
                    obtain ⟨e1, e2⟩ := hgO2 (by omega)
                    have e3 := hhO2 (by omega)
                    subst e1
                    subst e2
                    subst e3
                    go_upto_region 25 with fail
                    go_wp2_with fail
                    go_loopw [6, 10, 12] (fun lv mv bv w7 => ∃ (b : Nat) (more : Bool) (left' : Nat) (M : Nat → Nat → Bool) (nums : Nat → Nat → Nat) (f : Int × Int → Nat), b ≤ a ∧ bv = .int .i64 b ∧ lv = .int .i64 left' ∧ mv = .bool more ∧ Ts W3 w7 gB i gO gs hO gt M nums ∧ CardOf (LeftP i M) left' ∧ TPk g t M nums f ∧ (more = false → TStab i M t a b) ∧ left' ≤ left ∧ (more = true → left' < left)) (fun _ _ bv _ => a - (intOf bv).toNat)
                    case atStart => exact ⟨0, more, lf, M, nums, f, by omega, rfl, rfl, rfl, T, hC, hP, hst, hle, hltl⟩
                    case round =>
                      clear T hC hP hst hle hltl qg
                      obtain ⟨b, more, lf, M, nums, f, hba, rfl, rfl, rfl, T, hC, hP, hst, hle, hltl⟩ := hrel
                      by_cases hltb : b < a
                      · have m0 : decide ((b : Int) < a) = true := decide_eq_true (by omega)
                        have m0' : decide (b < a) = true := decide_eq_true hltb
                        have m0'' : (b : Int) < a := by omega
                        have hbi : b < i := by omega
                        have hain : (a : Int) < i := by omega
                        have hbin : (b : Int) < i := by omega
                        have z1 := T.mrow a hlta
                        have z2 := T.mrow b hbi
                        unfold rowV at z1 z2
                        have z3 := T.m a hlta b hbi
                        have ql := hql M nums wr T
                        cases hm : M a b with
                        | false =>
                          rw [hm] at z3
                          have hst2 : more = false → TStab i M t a (b + 1) := fun q x y hx hy h hm2 => by
                            by_cases e : x = a ∧ y = b
                            · rw [e.1, e.2, hm] at hm2; cases hm2
                            · exact hst q x y hx hy (by omega) hm2
                          clear hst hm
                          go_wp2_with fail
                          go_round
                          case rel => exact ⟨b + 1, more, lf, M, nums, f, by omega, by first | rfl | go_num, rfl, rfl, T, hC, hP, hst2, hle, hltl⟩
                          case measure => first | (simp [intOf]; done) | (simp [intOf]; omega)
                        | true =>
                          rw [hm] at z3
                          obtain ⟨d, hd⟩ : ∃ d, ((List.range i).filter fun k => M a k && M b k).length = d := ⟨_, rfl⟩
                          have hdc : CardOf (fun k => k < i ∧ M a k = true ∧ M b k = true) d := ⟨_, List.nodup_range.filter _, fun x => by rw [List.mem_filter, List.mem_range, Bool.and_eq_true], hd.symm⟩
                          have hcl := striples_is wr gO l3 i (by omega) gs M T.tbl a b d hlta hbi hdc
                          clear hd
                          by_cases hdt : d < t1
                          · have n0 : decide ((d : Int) < t1) = true := decide_eq_true (by omega)
                            have n0' : decide (d < t1) = true := decide_eq_true hdt
                            have n0'' : (d : Int) < t1 := by omega
                            have hP2 := hP.drop hw (by rw [HN1.out]; exact hlta) (by rw [HN1.out]; exact hbi) hm (by rw [HN1.out]; exact hdc) (by have := HT1.out; omega)
                            rw [← HQ.out] at hP2
                            obtain ⟨hpos, hC2⟩ := left_drop hC hlta hltb hm
                            have hls : ((lf : Int) - 1) = ((lf - 1 : Nat) : Int) := by omega
                            have hw3 : IntKind.i64.wrap ((lf : Int) - 1) = ((lf - 1 : Nat) : Int) := by rw [hls]; exact wrap64_of _ (by omega) (by omega)
                            clear hst hdc hC hP hls hdt hm
                            go_upto_region 29 with (go_at_call 51; refine hcl.mono ?_; rintro e w5 ⟨rfl, hb5⟩)
                            have T5 := T.step (hszT M nums wr T) hb5
                            clear z1 z2 z3 ql hcl hb5 T
                            have ql := hql _ _ _ T5
                            have z1 := T5.mrow a hlta
                            unfold rowV at z1
                            have z3 := T5.m a hlta b hbi
                            have z4 := T5.mf a hlta b
                            go_upto_region 30 with fail
                            have T6 := T5.putM hTw hlta hbi
                            clear z1 z3 z4 ql T5
                            generalize w5.setCell ⟨gs a, b, none⟩ (.bool false) = w6 at T6 ⊢
                            have ql := hql _ _ _ T6
                            have z1 := T6.mrow b hbi
                            unfold rowV at z1
                            have z3 := T6.m b hbi a hlta
                            have z4 := T6.mf b hbi a
                            go_upto_region 31 with fail
                            have T7 := T6.putM hTw hbi hlta
                            clear z1 z3 z4 ql T6
                            generalize w6.setCell ⟨gs b, a, none⟩ (.bool false) = w7 at T7 ⊢
                            have z1 := T7.nrow a hlta
                            unfold rowV at z1
                            have z3 := T7.num a hlta b hbi
                            have z4 := T7.nf a hlta b
                            go_upto_region 32 with fail
                            have T8 := T7.putN hTw hlta hbi q
                            clear z1 z3 z4 T7
                            generalize w7.setCell ⟨gt a, b, none⟩ (.int .i64 (q : Int)) = w8 at T8 ⊢
                            have z1 := T8.nrow b hbi
                            unfold rowV at z1
                            have z3 := T8.num b hbi a hlta
                            have z4 := T8.nf b hbi a
                            go_upto_region 33 with fail
                            have T9 := T8.putN hTw hbi hlta q
                            rw [set2F, set2N] at T9
                            clear z1 z3 z4 T8
                            generalize w8.setCell ⟨gt b, a, none⟩ (.int .i64 (q : Int)) = w9 at T9 ⊢
                            go_wp2_with fail
                            go_round
                            case rel => exact ⟨b + 1, true, lf - 1, _, _, _, by omega, by first | rfl | go_num, rfl, rfl, T9, hC2, hP2, (fun q => by cases q), by omega, fun _ => by omega⟩
                            case measure => first | (simp [intOf]; done) | (simp [intOf]; omega)
                          · have n0 : decide ((d : Int) < t1) = false := decide_eq_false (by omega)
                            have n0' : decide (d < t1) = false := decide_eq_false hdt
                            have n0'' : ¬ (d : Int) < t1 := by omega
                            have hst2 : more = false → TStab i M t a (b + 1) := fun q x y hx hy h hm2 => by
                              by_cases e : x = a ∧ y = b
                              · rw [e.1, e.2]; exact ⟨d, by have := HT1.out; omega, hdc⟩
                              · exact hst q x y hx hy (by omega) hm2
                            clear hst hdc hdt hm
                            go_wp2_with (go_at_call 51; refine hcl.mono ?_; rintro e w5 ⟨rfl, hb5⟩)
                            have T5 := T.step (hszT M nums wr T) hb5
                            go_round
                            case rel => exact ⟨b + 1, more, lf, M, nums, f, by omega, by first | rfl | go_num, rfl, rfl, T5, hC, hP, hst2, hle, hltl⟩
                            case measure => first | (simp [intOf]; done) | (simp [intOf]; omega)
                      · have hb3 : b = a := by omega
                        subst hb3
                        have m0 : decide ((b : Int) < b) = false := decide_eq_false (by omega)
                        have hst2 : more = false → TStab i M t (b + 1) 0 := fun q x y hx hy h hm => hst q x y hx hy (by omega) hm
                        clear hst
                        go_wp2_with fail
                        go_round
                        case rel => exact ⟨b + 1, more, lf, M, nums, f, by omega, by first | rfl | go_num, rfl, rfl, T, hC, hP, hst2, hle, hltl⟩
                        case measure => first | (simp [intOf]; done) | (simp [intOf]; omega)
                  · have ha3 : a = i := by omega
                    subst ha3
                    have k0 : decide ((a : Int) < a) = false := decide_eq_false (by omega)
                    clear hlta
                    go_wp2_with fail
                    go_round
                    case rel => exact ⟨more, lf, M, nums, f, rfl, rfl, T, hC, hP, by omega, hst⟩
                    case measure =>
                      cases more with
                      | true => have := hltl rfl; simp [intOf, moreOf]; omega
                      | false => simp [intOf, moreOf]; omega
          · have hl0 : left = 0 := by omega
            have g0 : decide ((0 : Int) < left) = false := decide_eq_false (by omega)
            have g0' : decide (0 < left) = false := decide_eq_false hl
            have g0'' : ¬ (0 : Int) < left := by omega
            have hall : ∀ x y, x < i → y < i → y < x → M x y = false := fun x y hx hy hxy => by
              cases hm : M x y with
              | false => rfl
              | true => exact absurd (hC.pos.2 ⟨(x, y), hxy, hx, hm⟩) (by omega)
            clear hl0 hl
            obtain ⟨hdone, hnum⟩ := hP.done hw (by rw [HN1.out]; exact hall)
            have qe := hqe M nums wr T
            have qg := hqg M nums wr T
            have hlr : ∀ b, b < w1.heap.size → wr.heap[b]? = W3.heap[b]? := hkeep M nums wr T
            have hRz : RGr wr _ (.agg #[.slice a1 i c1, .slice a2 n2 c2]) g := r3.kept (fun b hb _ => hlr b (by have := hb.2; have := HBG.out; omega))
            have hoz : wr.ownsRow (bg + 1) 72 2 (.slice (some ⟨bg + 1, 0, none⟩) 0 0) 0 [] := by
              refine ⟨ho3.1, ?_⟩
              rcases ho3.2 with q | ⟨g', cap', cur, q1, q2, q3, q4⟩
              · exact .inl q
              · refine .inr ⟨g', cap', cur, q1, q2, ?_, q4⟩
                injection q1 with q1
                injection q1 with q1
                injection q1 with q1
                subst q1
                exact (hlr _ (by omega)).trans q3
            have hn2' : (n2 : Int) ≤ 400 := by have := HN2.out; have := hw.e; omega
            have hpl : (trOf g.edges f).length = n2 := by unfold trOf; rw [List.length_map, HN2.out]
            have hszz := hszT M nums wr T
            obtain ⟨Wz, rfl⟩ : ∃ W, W = wr := ⟨wr, rfl⟩
            clear hP hC
            go_upto_region 35 with fail
            go_wp2_with fail
            go_loopw [3, 13] (fun ov jv w9 => ∃ j : Nat, j ≤ n2 ∧ jv = .int .i64 j ∧ Kp Wz w9 (fun q => q = bg + 1) ∧ (∀ q, ov.ownBlock = some q → q = bg + 1 ∨ Wz.heap.size ≤ q) ∧ w9.ownsRow (bg + 1) 72 2 ov j (((trOf g.edges f).take j).flatMap cP)) (fun _ jv _ => n2 - (intOf jv).toNat)
            case atStart => exact ⟨0, by omega, by first | rfl | go_num, Kp.refl _ _, (fun q e => .inl (Option.some.inj e).symm), hoz⟩
            case round =>
              clear hoz
              obtain ⟨j, hj, rfl, hk, hob, hown⟩ := hrel
              have qe2 := cell_kept (fun hl => hk.block bg hl (by omega)) qe
              by_cases hlt : j < n2
              · have k0 : decide ((j : Int) < n2) = true := decide_eq_true (by omega)
                have k0' : decide (j < n2) = true := decide_eq_true hlt
                have k0'' : (j : Int) < n2 := by omega
                have hjE : j < g.edges.length := by rw [HN2.out]; exact hlt
                have hRw : RGr wr _ (.agg #[.slice a1 i c1, .slice a2 n2 c2]) g := hRz.kept (fun b hb hl => hk.block b hl (by have := hb.2; have := HBG.out; omega))
                obtain ⟨v1', v2', hu, hNd, hEd⟩ := hRw
                injection hu with hu
                have hu := Array.mk.inj hu
                simp only [List.cons.injEq, and_true] at hu
                obtain ⟨rfl, rfl⟩ := hu
                obtain ⟨bE, oE, l3', d3, rfl, hSE, ed0, ed1, ed2, ed3, ed4, -, -⟩ := REd.at hEd hjE
                obtain ⟨p, q, hp, hq, hp1, hq1, hval⟩ := hnum _ (List.getElem_mem hjE)
                have hT : (trOf g.edges f).take (j + 1) = (trOf g.edges f).take j ++ [⟨g.edges[j].id, (nums p q : Int)⟩] := by
                  rw [take_snoc' _ j (by rw [hpl]; exact hlt), hval]
                  simp [trOf]
                rw [HN1.out] at hp hq
                have e3 := hhO2 (by omega)
                subst e3
                have hpI : (p : Int) < i := by omega
                have hqI : (q : Int) < i := by omega
                have nr := T.nrow p hp
                unfold rowV at nr
                have nc := T.num p hp q hq
                have hgtp := hTw.gtB p hp
                have hhOB := hTw.hOB (by omega)
                have nr2 := cell_kept (fun hl => hk.block hO hl (by omega)) nr
                have nc2 := cell_kept (fun hl => hk.block (gt p) hl (by omega)) nc
                have hgtl := lt_of_cell nc
                have hhOl := lt_of_cell nr
                have hbE : bE < bg := by have := hSE.2; have := HBG.out; omega
                obtain ⟨nv, hnv⟩ : ∃ x, nums p q = x := ⟨_, rfl⟩
                rw [hnv] at hT nc2
                clear hval nr nc hnv
                have hNa : ∀ (u : World) (id : Int) (x : Nat), Below wr.heap.size wr u → posN g.nodes id 0 = x → Calls Tryz.prog 52 #[.agg #[.slice a1 i c1, .slice (some ⟨bE, oE, none⟩) n2 c2], .int .i64 id] u (IntB (x : Int) u) := fun u id x hu hx => by
                  have := snodeAt_any u _ a1 (some ⟨bE, oE, none⟩) n2 c1 c2 g.nodes id (by rw [HN1.out]; exact hNd.below ENd.kept hu)
                  rwa [HN1.out, hx] at this
                generalize g.edges[j] = ed at ed0 ed1 ed2 ed3 ed4 hT hp1 hq1
                obtain ⟨yi, yt, ys, yd, yf⟩ := ed
                simp only at ed0 ed1 ed2 ed3 ed4 hT hp1 hq1
                clear ed1 ed4
                have hT2 : ((trOf g.edges f).take (j + 1)).flatMap cP = ((trOf g.edges f).take j).flatMap cP ++ [.int .i64 yi, .int .i64 (nv : Int)] := by rw [hT, List.flatMap_append]; rfl
                generalize ((trOf g.edges f).take j).flatMap cP = P at hown hT2
                have HT := Lib.hid hT2
                clear hT hT2
                have hdr : Below wr.heap.size wr wr.drew := below_drew wr
                have hn1 := hNa wr.drew ys p hdr hp1
                have hmk : ∀ u, Below wr.heap.size wr u → u.cell? ⟨bg, 0, none⟩ = some (.slice a1 i c1) ∧ u.cell? ⟨bg, 1, none⟩ = some (.slice (some ⟨bE, oE, none⟩) n2 c2) ∧ u.cell? ⟨bE, oE + j * 5, none⟩ = some (.int .i64 yi) ∧ u.cell? ⟨bE, oE + j * 5 + 2, none⟩ = some (.int .i64 ys) ∧ u.cell? ⟨bE, oE + j * 5 + 3, none⟩ = some (.int .i64 yd) ∧ u.cell? ⟨hO, p, none⟩ = some (.slice (some ⟨gt p, 0, none⟩) i i) ∧ u.cell? ⟨gt p, q, none⟩ = some (.int .i64 (nv : Int)) := fun u hu => ⟨cell_kept (fun hl => hu.block _ hl) (cell_kept (fun hl => hk.block bg hl (by omega)) qg), cell_kept (fun hl => hu.block _ hl) qe2, cell_kept (fun hl => hu.block _ hl) ed0, cell_kept (fun hl => hu.block _ hl) ed2, cell_kept (fun hl => hu.block _ hl) ed3, cell_kept (fun hl => hu.block _ hl) nr2, cell_kept (fun hl => hu.block _ hl) nc2⟩
                have hmd := hmk wr.drew hdr
                have hj400 : (j : Int) ≤ 400 := by omega
                have hszr := hk.size
                have hbr : bg + 1 ≤ wr.heap.size := by omega
                have hneB : ∀ b, b ≠ bg + 1 → b < Wz.heap.size → u3.ownBlock ≠ some b := fun b h1 h2 e => by
                  rcases hob b e with z | z
                  · exact h1 z
                  · omega
                have hn0 := hneB bg (by omega) (by omega)
                have hn1' := hneB bE (by omega) (by omega)
                have hn2'' := hneB hO (by omega) hhOl
                have hn3 := hneB (gt p) (by omega) hgtl
                go_upto_region 38 with fail
                have tok := True.intro
                go_region_held_law (fun w' : World => w'.cell? ⟨bg, 0, none⟩ = some (.slice a1 i c1) ∧ w'.cell? ⟨bg, 1, none⟩ = some (.slice (some ⟨bE, oE, none⟩) n2 c2) ∧ w'.cell? ⟨bE, oE + j * 5, none⟩ = some (.int .i64 yi) ∧ w'.cell? ⟨bE, oE + j * 5 + 2, none⟩ = some (.int .i64 ys) ∧ w'.cell? ⟨bE, oE + j * 5 + 3, none⟩ = some (.int .i64 yd) ∧ w'.cell? ⟨hO, p, none⟩ = some (.slice (some ⟨gt p, 0, none⟩) i i) ∧ w'.cell? ⟨gt p, q, none⟩ = some (.int .i64 (nv : Int))) (first | go_keep | exact hmd | exact dA | exact dB | exact d6) (first
                  | (go_at_call 52; clear tok; refine hn1.mono ?_; rintro e wA ⟨rfl, hA⟩; have hbA' := hdr.trans (hA.mono hdr.size); have dA := hmk wA hbA')
                  | (go_at_call 52; refine (hNa wA yd q hbA' hq1).mono ?_; rintro e wB ⟨rfl, hB⟩; have hbB := hbA'.trans (hB.mono hbA'.size); have dB := hmk wB hbB; have hoB := own_kept hown (fun b _ hl => hbB.block b hl); have hszB := hbB.size)
                  | (refine step_append_lies _ (by rfl) (.tmp 122) (.tmp 151) 27 (by rfl) (bg + 1) 72 j0 (.agg #[.int .i64 0, .int .i64 0]) 2 16 Tryz.underlying27 hj0 hj0z hj01 hj02 rfl (by decide) u3 j P (by rfl) (hoB.alloc _) ⟨_, 0, none⟩ 1 1 [.int .i64 yi, .int .i64 (nv : Int)] (by rfl) rfl (World.news_of_block (new_block (by simp) _ _)) (by intro u hu; simp at hu; rcases hu with rfl | rfl <;> rfl) (by decide) (by unfold maxLen; omega) (by omega) (by simp <;> omega) _ rfl ?_; intro g6 cap w6 hown6 hgrow6 hat6 hlt6; have hgrow6 : World.grownBy _ w6 u3.ownBlock := hgrow6; have hkC : ∀ (b o : Nat) (x : Value), wB.cell? ⟨b, o, none⟩ = some x → u3.ownBlock ≠ some b → w6.cell? ⟨b, o, none⟩ = some x := (fun b o x hx hne => cell_kept (fun hl => (hgrow6.block b (Nat.lt_of_lt_of_le hl (by simp)) (fun e => hne e.symm)).trans (((Below.refl _ wB).alloc (Nat.le_refl _) _).block b hl)) hx); have d6 := And.intro (hkC _ _ _ dB.1 hn0) (And.intro (hkC _ _ _ dB.2.1 hn0) (And.intro (hkC _ _ _ dB.2.2.1 hn1') (And.intro (hkC _ _ _ dB.2.2.2.1 hn1') (And.intro (hkC _ _ _ dB.2.2.2.2.1 hn1') (And.intro (hkC _ _ _ dB.2.2.2.2.2.1 hn2'') (hkC _ _ _ dB.2.2.2.2.2.2 hn3))))))))
                have hk6 : Kp Wz w6 (fun q => q = bg + 1) := hk.then ((Kp.of_below hbB _).trans ((Kp.of_below ((Below.refl _ wB).alloc (Nat.le_refl _) _) _).trans (Kp.of_grown hgrow6))) (fun q e => hob q e.symm)
                have hob6 : ∀ q, (Value.slice (some ⟨g6, 0, none⟩) (j + 1) cap).ownBlock = some q → q = bg + 1 ∨ Wz.heap.size ≤ q := fun q e => by
                  have e : g6 = q := Option.some.inj e
                  subst e
                  rcases hat6 with z | z
                  · exact hob _ z
                  · right
                    rw [z]
                    simp
                    omega
                go_wp2_with fail
                go_round
                case rel => exact ⟨j + 1, by omega, by first | rfl | go_num, hk6, hob6, by rw [HT.out]; exact hown6⟩
                case measure => first | (simp [intOf]; done) | (simp [intOf]; omega)
              · have hj3 : j = n2 := by omega
                subst hj3
                have k0 : decide ((j : Int) < j) = false := decide_eq_false (by omega)
                rw [List.take_of_length_le (by omega)] at hown
                have hown : wr.ownsRow (bg + 1) 72 2 u3 (trOf g.edges f).length ((trOf g.edges f).flatMap cP) := by rw [hpl]; exact hown
                obtain ⟨s1, s2⟩ := own_rpt hown (by omega)
                go_wp2_with fail
                go_ret
                have hbZ : Below w.heap.size w wr := ⟨hk.os.trans (T.os.trans hbA.os), hk.tape.trans (T.tape.trans hbA.tape), hk.output.trans (T.output.trans hbA.output), Nat.le_trans hbA.size (Nat.le_trans T.size hk.size), fun b hb => by
                  rw [HBG.out] at hb
                  exact (hk.block b (by have := T.size; rw [HGB.out] at this; omega) (by omega)).trans ((hlr b (by omega)).trans (hbA.block b (by rw [HBG.out]; exact hb)))⟩
                refine ⟨_, ⟨(fun h => by rw [hg] at h; cases h), (fun _ => ⟨f, hdone, rfl⟩)⟩, _, rfl, s1.mono EPt.mono (fun b hb => by rw [HBG.out]; omega), Own.low s2 (by rw [HBG.out]; omega), hbZ⟩
end Go.Proofs.YtbaljljlahhkfaaGreatDoor
