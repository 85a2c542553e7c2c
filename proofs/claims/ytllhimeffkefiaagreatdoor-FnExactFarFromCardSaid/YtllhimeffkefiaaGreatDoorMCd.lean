/- Texts of one proof, joined in their order: each bears its own word of what it holds and on what condition. -/
import Derived.Test.YtllhimeffkefiaaGreatDoorMCc
import Derived.Test.YtllhimeffkefiaaGreatDoorMP
import Derived.Test.YtllhimeffkefiaaGreatDoorML
set_option linter.unusedVariables false
set_option linter.unusedSimpArgs false
/- The specification's CircleOf, whole. No condition on the graph. -/
set_option linter.unusedVariables false
set_option linter.unusedSimpArgs false
namespace Go.Proofs.YtllhimeffkefiaaGreatDoor
open Go.RowKit Go.Sort

def CircR (g : Gr) (w : World) (e : Ending) (w' : World) : Prop := ∃ xs, CircX g xs ∧ IntsR xs w e w'
theorem own_shapeC {w : World} {base : Nat} {e : TypeId} {sz : Nat} {v : Value} {n : Nat} {xs : List Value} (h : w.ownsRow base e sz v n xs) : ∃ a c, v = .slice a n c := by
  rcases h.2 with ⟨q, hn⟩ | ⟨g, cap, cur, q, _⟩
  · subst hn; exact ⟨_, _, q⟩
  · exact ⟨_, _, q⟩
theorem best_step {g : Gr} {i : Nat} (hi : i < g.nodes.length) {P P2 : List Nat} (hB : Best g i (idsP g P)) (hC : CirP g i hi P2) :
    (0 < P2.length → (P.length = 0 ∨ P2.length < P.length) → Best g (i + 1) (idsP g P2)) ∧ (¬ (0 < P2.length ∧ (P.length = 0 ∨ P2.length < P.length)) → Best g (i + 1) (idsP g P)) := by
  have hl : ∀ Q, (idsP g Q).length = Q.length := fun Q => by unfold idsP; rw [List.length_map]
  constructor
  · intro h1 h2
    rcases hC with ⟨e, _⟩ | hC
    · rw [e] at h1; simp at h1
    · refine hB.take hi hC ?_
      rcases h2 with h2 | h2
      · exact .inl (List.length_eq_zero_iff.1 (by rw [hl]; exact h2))
      · exact .inr (by rw [hl, hl]; exact h2)
  · intro h1
    refine hB.skip hi (fun L' q => ?_)
    rcases hC with ⟨_, hC⟩ | hC
    · exact absurd q (hC L')
    · have e := hC.same q
      have hp := q.pos
      rw [← e, hl] at hp
      rw [← e, hl, hl]
      omega
set_option maxHeartbeats 4000000 in
set_option maxRecDepth 100000 in
theorem scirc_any (w : World) (S0 : Nat → Prop) (v : Value) (g : Gr) (h : RGr w S0 v g) : Calls Tryz.prog 15 #[v] w (CircR g w) := by
  have h0 := h.within
  obtain ⟨v1, v2, rfl, h1, h2⟩ := h
  obtain ⟨a1, c1, rfl⟩ := h1.shape
  obtain ⟨a2, c2, rfl⟩ := h2.shape
  obtain ⟨n1, hn1⟩ : ∃ n, g.nodes.length = n := ⟨_, rfl⟩
  obtain ⟨n2, hn2⟩ : ∃ n, g.edges.length = n := ⟨_, rfl⟩
  have HN1 := Lib.hid hn1
  rw [hn1, hn2] at h0
  rw [hn1, hn2]
  clear h1 h2 hn1 hn2
  have hbb := (Below.refl _ w).alloc (Nat.le_refl _) (.cells #[.slice a1 n1 c1, .slice a2 n2 c2] 36)
  have hba := hbb.alloc hbb.size (.cells #[] 2)
  have e1 : (w.alloc (.cells #[.slice a1 n1 c1, .slice a2 n2 c2] 36)).heap.size = w.heap.size + 1 := by simp
  have ho0 : ((w.alloc (.cells #[.slice a1 n1 c1, .slice a2 n2 c2] 36)).alloc (.cells #[] 2)).ownsRow (w.heap.size + 1) 2 1 (.slice (some ⟨w.heap.size + 1, 0, none⟩) 0 0) 0 [] := ⟨rfl, .inr ⟨w.heap.size + 1, 0, #[], rfl, Nat.le_refl _, by rw [← e1]; exact heap_alloc_new _ _, by simp, by unfold maxLen; simp, rfl, rfl⟩⟩
  have r1 := h0.below hba
  have x0 : ((w.alloc (.cells #[.slice a1 n1 c1, .slice a2 n2 c2] 36)).alloc (.cells #[] 2)).cell? ⟨w.heap.size, 0, none⟩ = some (.slice a1 n1 c1) := cell_alloc (by rw [World.cell?_alloc_mark]; rfl) _
  have x1 : ((w.alloc (.cells #[.slice a1 n1 c1, .slice a2 n2 c2] 36)).alloc (.cells #[] 2)).cell? ⟨w.heap.size, 1, none⟩ = some (.slice a2 n2 c2) := cell_alloc (by rw [World.cell?_alloc_mark]; rfl) _
  clear e1 hbb
  cases hg : gOk g with
  | false =>
    go_enter Tryz.func15, Tryz.ntmps15
    go_wp2_with (go_at_call 35; refine (fault_bad _ _ _ _ hg r1).mono ?_; rintro e w1 ⟨rfl, hb1⟩)
    go_ret
    exact ⟨[], ⟨(fun _ => rfl), (fun h => by rw [hg] at h; cases h)⟩, IntsR.nil _ _ _ _ (hba.trans (hb1.mono hba.size))⟩
  | true =>
    have hw := gw_of hg
    have hlen := (gOk_parts hg).1
    have hlen' : (n1 : Int) ≤ 200 := by have := HN1.out; omega
    obtain ⟨i0, hi0, hi0z, hi01, hi02⟩ := info_parts (show (Tryz.prog.info? 2).map (fun i => (i.zero, i.size, i.bytes)) = some (some (.int .i64 0), 1, 8) by kernel_rfl)
    go_enter Tryz.func15, Tryz.ntmps15
    go_upto_region 5 with (first
      | (go_at_call 35; refine (fault_good _ _ _ _ hg r1).mono ?_; rintro e w1 ⟨rfl, hb1⟩; have r2 := r1.below hb1; have y0 := cell_kept (fun hl => hb1.block _ hl) x0; have y1 := cell_kept (fun hl => hb1.block _ hl) x1)
      | (go_at_call 37; refine (linkedD_any _ _ _ g r2 hg).mono ?_; rintro e w2 ⟨vL, gs, rfl, hmx, hb2⟩; obtain ⟨l1, l2, l3, rfl⟩ := hmx.shape))
    have hb3 := (Below.refl _ w2).alloc (Nat.le_refl _) (.cells #[.slice l1 l2 l3] 66)
    have hb23 := hb2.trans (hb3.mono hb2.size)
    have r3 := r2.below hb23
    have z0 := cell_kept (fun hl => hb23.block _ hl) y0
    have zl : (w2.alloc (.cells #[.slice l1 l2 l3] 66)).cell? ⟨w2.heap.size, 0, none⟩ = some (.slice l1 l2 l3) := by rw [World.cell?_alloc_mark]; rfl
    have hmx3 := hmx.below hb3
    have hw1s : w.heap.size + 2 ≤ w1.heap.size := by have := hb1.size; simp at this; omega
    have hw3s : w1.heap.size ≤ (w2.alloc (.cells #[.slice l1 l2 l3] 66)).heap.size := hb23.size
    have hbA : Below w.heap.size w (w2.alloc (.cells #[.slice l1 l2 l3] 66)) := (hba.trans (hb1.mono hba.size)).trans (hb23.mono (Nat.le_trans hba.size hb1.size))
    have ho3 : (w2.alloc (.cells #[.slice l1 l2 l3] 66)).ownsRow (w.heap.size + 1) 2 1 (.slice (some ⟨w.heap.size + 1, 0, none⟩) 0 0) 0 [] := own_kept (own_kept ho0 (fun b _ hl => hb1.block b hl)) (fun b _ hl => hb23.block b hl)
    clear hba hb1 hb2 hb3 hb23 r1 r2 x0 y0 x1 y1 hmx h0 ho0
    obtain ⟨bL, hbL⟩ : ∃ b, w2.heap.size = b := ⟨_, rfl⟩
    rw [hbL] at zl
    generalize w2.alloc (.cells #[.slice l1 l2 l3] 66) = W3 at r3 z0 zl hmx3 hbA hw3s ho3 ⊢
    simp only [hbL]
    clear hbL
    rw [HN1.out] at hmx3
    obtain ⟨bg, hbg⟩ : ∃ b, w.heap.size = b := ⟨_, rfl⟩
    have hbE := (Below.refl _ W3).alloc (Nat.le_refl _) (.cells #[] 3)
    have hown0 : (W3.alloc (.cells #[] 3)).ownsRow W3.heap.size 3 1 (.slice (some ⟨W3.heap.size, 0, none⟩) 0 0) ([] : List Nat).length (([] : List Nat).map fun p : Nat => Value.int .i64 p) := ⟨rfl, .inr ⟨W3.heap.size, 0, #[], rfl, Nat.le_refl _, heap_alloc_new _ _, by simp, by unfold maxLen; simp, rfl, rfl⟩⟩
    have hB0 := Best.none g
    go_upto_region 7 with fail
    generalize W3.alloc (.cells #[] 3) = W4 at hbE hown0 ⊢
    rw [hbg] at z0 hw1s ho3
    try simp only [hbg]
    have HBG := Lib.hid hbg
    clear hbg
    go_loopw [5, 6, 7] (fun bv iv _ wr => ∃ (i : Nat) (P : List Nat), i ≤ n1 ∧ iv = .int .i64 i ∧ Below W3.heap.size W3 wr ∧ wr.ownsRow W3.heap.size 3 1 bv P.length (P.map fun p : Nat => Value.int .i64 p) ∧ (∀ p ∈ P, p < n1) ∧ P.length ≤ 200 ∧ Best g i (idsP g P)) (fun _ iv _ wr => n1 - (intOf iv).toNat)
    case atStart => exact ⟨0, [], by omega, rfl, hbE, hown0, by simp, by simp, hB0⟩
    case round =>
      clear hbE hown0 hB0
      obtain ⟨i, P, hi, rfl, hbw, hown, hPn, hPl, hB⟩ := hrel
      have q0 := cell_kept (fun hl => hbw.block _ hl) z0
      have ql := cell_kept (fun hl => hbw.block _ hl) zl
      by_cases hlt : i < n1
      · have f0 : decide ((i : Int) < n1) = true := decide_eq_true (by omega)
        have f0' : decide (i < n1) = true := decide_eq_true hlt
        have hlt2 : (i : Int) < n1 := by omega
        have hig : i < g.nodes.length := by rw [HN1.out]; exact hlt
        have hmxw := hmx3.below hbw
        obtain ⟨gO, cO, hEq, hrow⟩ := hmxw.rowcell hlt
        injection hEq with q1 q2 q3
        subst q1
        subst q3
        have hq2 : n1 = l2 := q2.symm
        subst hq2
        have hcl : Calls Tryz.prog 47 #[.agg #[.slice (some ⟨gO, 0, none⟩) n1 l3], .int .i64 i] wr (CirR g i hig wr) := by
          have := scircle_any wr g hw gO l3 gs ⟨fun j hj => by rw [HN1.out] at hj ⊢; exact hrow j hj, fun a ha b hb => hmxw.cell a (by rw [← HN1.out]; exact ha) b (by rw [← HN1.out]; exact hb)⟩ i hig
          rwa [HN1.out] at this
        obtain ⟨u1, u3, rfl⟩ := own_shapeC hown
        go_upto_region 10 with (go_at_call 47; refine hcl.mono ?_; rintro e w5 ⟨v5, P2, rfl, hown2, hP2n, hC, hb5⟩)
        have hb35 := hbw.trans (hb5.mono hbw.size)
        have hown1 := own_kept hown (fun b _ hl => hb5.block b hl)
        have hown2' := own_lower hown2 hbw.size
        obtain ⟨t1, t2⟩ := best_step hig hB hC
        obtain ⟨y1, y3, rfl⟩ := own_shapeC hown2
        have hP2l : P2.length ≤ 200 := by
          rcases hC with ⟨e, _⟩ | hC
          · rw [e]; simp
          · have := hC.le hw (List.mem_map.2 ⟨_, List.getElem_mem hig, rfl⟩)
            unfold idsP idsOf at this
            rw [List.length_map, List.length_map] at this
            omega
        have hP2n' : ∀ p ∈ P2, p < n1 := fun p hp => by rw [← HN1.out]; exact hP2n p hp
        have H2 := Lib.hid hown2'
        have H1 := Lib.hid hown1
        have T1 := Lib.hid t1
        have T2 := Lib.hid t2
        obtain ⟨p1, hp1⟩ : ∃ q, P.length = q := ⟨_, rfl⟩
        obtain ⟨p2, hp2⟩ : ∃ q, P2.length = q := ⟨_, rfl⟩
        have h1I : (p1 : Int) ≤ 200 := by omega
        have h2I : (p2 : Int) ≤ 200 := by omega
        simp only [hp1, hp2]
        have HP1 := Lib.hid hp1
        have HP2 := Lib.hid hp2
        clear hown hown1 hown2 hown2' t1 t2 hcl hbw hb5 q0 ql hrow hmxw hC hp1 hp2
        by_cases ha : 0 < p2
        · have m0 : decide ((0 : Int) < p2) = true := decide_eq_true (by omega)
          have m0' : (0 : Int) < p2 := by omega
          by_cases hb : p1 = 0
          · have m1 : decide ((p1 : Int) = 0) = true := decide_eq_true (by omega)
            have m1' : (p1 : Int) = 0 := by omega
            go_wp2_with fail
            go_round
            case rel => exact ⟨i + 1, P2, by omega, by first | rfl | go_num, hb35, by have := H2.out; rw [HP2.out] at this ⊢; exact this, hP2n', hP2l, T1.out (by rw [HP2.out]; exact ha) (.inl (by rw [HP1.out]; exact hb))⟩
            case measure => first | (simp [intOf]; done) | (simp [intOf]; omega)
          · have m1 : decide ((p1 : Int) = 0) = false := decide_eq_false (by omega)
            have m1' : ¬ (p1 : Int) = 0 := by omega
            by_cases hc : p2 < p1
            · have m2 : decide ((p2 : Int) < p1) = true := decide_eq_true (by omega)
              have m2' : (p2 : Int) < p1 := by omega
              have m2'' : decide (p2 < p1) = true := decide_eq_true hc
              go_wp2_with fail
              go_round
              case rel => exact ⟨i + 1, P2, by omega, by first | rfl | go_num, hb35, by have := H2.out; rw [HP2.out] at this ⊢; exact this, hP2n', hP2l, T1.out (by rw [HP2.out]; exact ha) (.inr (by rw [HP1.out, HP2.out]; exact hc))⟩
              case measure => first | (simp [intOf]; done) | (simp [intOf]; omega)
            · have m2 : decide ((p2 : Int) < p1) = false := decide_eq_false (by omega)
              have m2' : ¬ (p2 : Int) < p1 := by omega
              have m2'' : decide (p2 < p1) = false := decide_eq_false hc
              go_wp2_with fail
              go_round
              case rel => exact ⟨i + 1, P, by omega, by first | rfl | go_num, hb35, by have := H1.out; rw [HP1.out] at this ⊢; exact this, hPn, hPl, T2.out (by rw [HP1.out, HP2.out]; omega)⟩
              case measure => first | (simp [intOf]; done) | (simp [intOf]; omega)
        · have m0 : decide ((0 : Int) < p2) = false := decide_eq_false (by omega)
          have m0' : ¬ (0 : Int) < p2 := by omega
          go_wp2_with fail
          go_round
          case rel => exact ⟨i + 1, P, by omega, by first | rfl | go_num, hb35, by have := H1.out; rw [HP1.out] at this ⊢; exact this, hPn, hPl, T2.out (by rw [HP1.out, HP2.out]; omega)⟩
          case measure => first | (simp [intOf]; done) | (simp [intOf]; omega)
      · have hi3 : i = n1 := by omega
        have f0 : decide ((i : Int) < n1) = false := decide_eq_false (by omega)
        have f0' : ¬ (i : Int) < n1 := by omega
        have hBa : Best g g.nodes.length (idsP g P) := by rw [HN1.out, ← hi3]; exact hB
        obtain ⟨u1, u3, rfl⟩ := own_shapeC hown
        obtain ⟨Wz, rfl⟩ : ∃ W, W = wr := ⟨wr, rfl⟩
        have hw3 : w1.heap.size ≤ Wz.heap.size := Nat.le_trans hw3s hbw.size
        have hRz := r3.below hbw
        have hoz := own_kept ho3 (fun b _ hl => hbw.block b hl)
        obtain ⟨pl, hpl⟩ : ∃ q, P.length = q := ⟨_, rfl⟩
        rw [hpl] at hown hPl
        have HPL := Lib.hid hpl
        have hplI : (pl : Int) ≤ 200 := by omega
        simp only [hpl]
        clear hB hi3 hpl
        go_upto_region 12 with fail
        go_wp2_with fail
        go_loopw [3, 8] (fun ov kv w9 => ∃ k : Nat, k ≤ pl ∧ kv = .int .i64 k ∧ Kp Wz w9 (fun q => q = bg + 1) ∧ (∀ q, ov.ownBlock = some q → q = bg + 1 ∨ Wz.heap.size ≤ q) ∧ w9.ownsRow (bg + 1) 2 1 ov k ((idsP g (P.take k)).map (Value.int .i64))) (fun _ kv _ => pl - (intOf kv).toNat)
        case atStart => exact ⟨0, by omega, by first | rfl | go_num, Kp.refl _ _, (fun q e => .inl (Option.some.inj e).symm), hoz⟩
        case round =>
          clear hoz f0 f0'
          obtain ⟨k, hk, rfl, hkp, hob, hown9⟩ := hrel
          have qg := cell_kept (fun hl => hkp.block bg hl (by omega)) q0
          by_cases hltk : k < pl
          · have k0 : decide ((k : Int) < pl) = true := decide_eq_true (by omega)
            have k0' : decide (k < pl) = true := decide_eq_true hltk
            have k0'' : (k : Int) < pl := by omega
            have hkP : k < P.length := by rw [HPL.out]; exact hltk
            have hRw : RGr wr _ (.agg #[.slice a1 n1 c1, .slice a2 n2 c2]) g := hRz.kept (fun b hb hl => hkp.block b hl (by have := hb.2; have := HBG.out; omega))
            obtain ⟨v1', v2', hu, hNd, _⟩ := hRw
            injection hu with hu
            have hu := Array.mk.inj hu
            simp only [List.cons.injEq, and_true] at hu
            obtain ⟨rfl, rfl⟩ := hu
            obtain ⟨gb, cb, hEq, hgb, hgbl, hat, _⟩ := own_at hown (by omega)
            injection hEq with q1 _ q3
            subst q1
            subst q3
            have hpn := hPn _ (List.getElem_mem hkP)
            have zb : wr.cell? ⟨gb, k, none⟩ = some (.int .i64 (P[k] : Nat)) := by
              have := hat k (.int .i64 (P[k] : Nat)) (by rw [List.getElem?_map, List.getElem?_eq_getElem hkP]; rfl)
              rw [Nat.zero_add] at this
              exact cell_kept (fun hl => hkp.block gb hl (by omega)) this
            have hT : (idsP g (P.take (k + 1))).map (Value.int .i64) = (idsP g (P.take k)).map (Value.int .i64) ++ [.int .i64 (idAt g P[k])] := by
              rw [take_snoc' _ k hkP]
              unfold idsP
              rw [List.map_append, List.map_append]
              rfl
            have hpg : P[k] < g.nodes.length := by rw [HN1.out]; exact hpn
            rw [idAt_eq hpg] at hT
            obtain ⟨p, hp⟩ : ∃ p, P[k] = p := ⟨_, rfl⟩
            simp only [hp] at zb hT hpn hpg
            obtain ⟨b, o, pp1, d1, pp2, d2, rfl, hS0, hc, hcl, hcf, _, _⟩ := RNd.at hNd hpg
            obtain ⟨x, hx⟩ : ∃ x, g.nodes[p].id = x := ⟨_, rfl⟩
            rw [hx] at hc hT
            have hpI : (p : Int) < n1 := by omega
            generalize (idsP g (P.take k)).map (Value.int .i64) = Q at hown9 hT
            have HT := Lib.hid hT
            have hoD : wr.drew.ownsRow (bg + 1) 2 1 u3 k Q := hown9
            have hszr := hkp.size
            have hbr : bg + 1 ≤ wr.heap.size := by omega
            have hkI : (k : Int) ≤ 200 := by omega
            clear hT hat hcl hcf hp hx
            go_upto_region 15 with fail
            go_region_law (refine step_append_lies _ (by rfl) (.tmp 49) (.tmp 59) 27 (by rfl) (bg + 1) 2 i0 (.int .i64 0) 1 8 Tryz.underlying27 hi0 hi0z hi01 hi02 rfl (by decide) u3 k Q (by rfl) (hoD.alloc _) ⟨_, 0, none⟩ 1 1 [.int .i64 x] (by rfl) rfl (World.news_of_block (new_block (by simp) _ _)) (by intro u hu; simp at hu; subst hu; rfl) (by decide) (by unfold maxLen; omega) (by omega) (by simp <;> omega) _ rfl ?_; intro g6 cap w6 hown6 hgrow6 hat6 hlt6; have hgrow6 : World.grownBy _ w6 u3.ownBlock := hgrow6)
            all_goals
              have hk6 : Kp Wz w6 (fun q => q = bg + 1) := hkp.then ((Kp.of_below ((below_drew wr).alloc (Nat.le_refl _) _) _).trans (Kp.of_grown hgrow6)) (fun q e => hob q e.symm)
              have hob6 : ∀ q, (Value.slice (some ⟨g6, 0, none⟩) (k + 1) cap).ownBlock = some q → q = bg + 1 ∨ Wz.heap.size ≤ q := fun q e => by
                have e : g6 = q := Option.some.inj e
                subst e
                rcases hat6 with z | z
                · exact hob _ z
                · right
                  rw [z]
                  simp
                  omega
              go_wp2_with fail
              go_round
              case rel => exact ⟨k + 1, by omega, by first | rfl | go_num, hk6, hob6, by rw [HT.out]; exact hown6⟩
              case measure => first | (simp [intOf]; done) | (simp [intOf]; omega)
          · have hk3 : k = pl := by omega
            subst hk3
            have k0 : decide ((k : Int) < k) = false := decide_eq_false (by omega)
            rw [List.take_of_length_le (by rw [HPL.out]; omega)] at hown9
            have hl : (idsP g P).length = k := by unfold idsP; rw [List.length_map, HPL.out]
            have hown9 : wr.ownsRow (bg + 1) 2 1 u3 (idsP g P).length ((idsP g P).map (Value.int .i64)) := by rw [hl]; exact hown9
            obtain ⟨s1, s2⟩ := own_rint hown9 (by omega)
            go_wp2_with fail
            go_ret
            have hbZ : Below w.heap.size w wr := ⟨hkp.os.trans (hbw.os.trans hbA.os), hkp.tape.trans (hbw.tape.trans hbA.tape), hkp.output.trans (hbw.output.trans hbA.output), Nat.le_trans hbA.size (Nat.le_trans hbw.size hkp.size), fun b hb => by
              rw [HBG.out] at hb
              exact (hkp.block b (by omega) (by omega)).trans ((hbw.block b (by omega)).trans (hbA.block b (by rw [HBG.out]; exact hb)))⟩
            exact ⟨_, ⟨(fun h => by rw [hg] at h; cases h), (fun _ => hBa)⟩, _, rfl, s1.mono EInt.mono (fun b hb => by rw [HBG.out]; omega), Own.low s2 (by rw [HBG.out]; omega), hbZ⟩
end Go.Proofs.YtllhimeffkefiaaGreatDoor
