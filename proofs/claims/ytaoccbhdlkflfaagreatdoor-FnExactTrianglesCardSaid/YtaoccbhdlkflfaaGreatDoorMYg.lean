/- Texts of one proof, joined in their order: each bears its own word of what it holds and on what condition. -/
import Derived.Test.YtaoccbhdlkflfaaGreatDoorMYe
import Derived.Test.YtaoccbhdlkflfaaGreatDoorMR
import Derived.StillTailTactics
set_option linter.unusedVariables false
set_option linter.unusedSimpArgs false
/- The specification's Triangles, whole. No condition on the graph. -/
set_option linter.unusedVariables false
set_option linter.unusedSimpArgs false
namespace Go.Proofs.YtaoccbhdlkflfaaGreatDoor
open Go.RowKit Go.Sort

/-- a triple of places that i is in -/
def GoodT (n : Nat) (M : Nat → Nat → Bool) (i : Nat) (p : Nat × Nat) : Prop := p.1 < p.2 ∧ p.2 < n ∧ M i p.1 = true ∧ M i p.2 = true ∧ M p.1 p.2 = true
theorem good_tri {g : Gr} (h : Gw g) {i c : Nat} (hi : i < g.nodes.length) (hc : CardOf (GoodT g.nodes.length (lnks g.nodes g.edges) i) c) : CardOf (Tri g.edges g.nodes[i].id) c := by
  obtain ⟨P, h1, h2, h3⟩ := hc
  have hlt : ∀ p ∈ P, p.1 < g.nodes.length ∧ p.2 < g.nodes.length := fun p hp => by
    obtain ⟨a, b, _⟩ := (h2 p).1 hp
    exact ⟨by omega, b⟩
  have hnb : ∀ {i j : Nat} (hi : i < g.nodes.length) (hj : j < g.nodes.length), lnks g.nodes g.edges i j = true ↔ IsNb g.edges g.nodes[i].id g.nodes[j].id := fun {i j} hi hj => by
    rw [lnks_iff h hi hj]
    constructor
    · rintro ⟨hne, e, he, q⟩
      refine ⟨e, he, fun e2 => hne (gOk_inj h hi hj ?_), q⟩
      rcases q with ⟨q1, q2⟩ | ⟨q1, q2⟩ <;> rw [← q1, ← q2, e2]
    · rintro ⟨e, he, e2, q⟩
      refine ⟨fun e3 => ?_, e, he, q⟩
      subst e3
      rcases q with ⟨q1, q2⟩ | ⟨q1, q2⟩ <;> exact e2 (by rw [q1, q2])
  have hord : ∀ {i j : Nat} (hi : i < g.nodes.length) (hj : j < g.nodes.length), i < j ↔ g.nodes[i].id < g.nodes[j].id := fun {i j} hi hj => by
    constructor
    · exact fun q => h.rise _ _ hj q
    · intro q
      rcases Nat.lt_trichotomy i j with z | z | z
      · exact z
      · subst z; omega
      · have := h.rise _ _ hi z; omega
  refine ⟨P.map fun p => ((g.nodes.getD p.1 n0).id, (g.nodes.getD p.2 n0).id), ?_, fun q => ?_, by rw [List.length_map]; exact h3⟩
  · rw [List.nodup_iff_pairwise_ne, List.pairwise_map]
    refine List.Pairwise.imp_of_mem ?_ (List.nodup_iff_pairwise_ne.1 h1)
    intro p q hp hq hne e
    injection e with e1 e2
    rw [getD_eq (hlt p hp).1, getD_eq (hlt q hq).1] at e1
    rw [getD_eq (hlt p hp).2, getD_eq (hlt q hq).2] at e2
    exact hne (Prod.ext (gOk_inj h _ _ e1) (gOk_inj h _ _ e2))
  · rw [List.mem_map]
    constructor
    · rintro ⟨p, hp, rfl⟩
      obtain ⟨a, b⟩ := hlt p hp
      obtain ⟨g1, g2, g3, g4, g5⟩ := (h2 p).1 hp
      rw [getD_eq a, getD_eq b]
      exact ⟨(hord a b).1 g1, (hnb hi a).1 g3, (hnb hi b).1 g4, (hnb a b).1 g5⟩
    · rintro ⟨g1, g2, g3, g4⟩
      have m1 : q.1 ∈ idsOf g.nodes := by
        obtain ⟨e, he, _, z⟩ := g2
        obtain ⟨a, b⟩ := gOk_mem h he
        rcases z with ⟨_, z⟩ | ⟨_, z⟩ <;> rw [← z] <;> assumption
      have m2 : q.2 ∈ idsOf g.nodes := by
        obtain ⟨e, he, _, z⟩ := g3
        obtain ⟨a, b⟩ := gOk_mem h he
        rcases z with ⟨_, z⟩ | ⟨_, z⟩ <;> rw [← z] <;> assumption
      obtain ⟨k, hk, _, ek⟩ := gOk_pos h m1
      obtain ⟨m, hm, _, em⟩ := gOk_pos h m2
      refine ⟨(k, m), (h2 _).2 ⟨?_, hm, ?_, ?_, ?_⟩, by simp only [getD_eq hk, getD_eq hm, ek, em]⟩
      · exact (hord hk hm).2 (by rw [ek, em]; exact g1)
      · exact (hnb hi hk).2 (by rw [ek]; exact g2)
      · exact (hnb hi hm).2 (by rw [em]; exact g3)
      · exact (hnb hk hm).2 (by rw [ek, em]; exact g4)
theorem card_stay {k m c : Nat} {G : Nat × Nat → Prop} (h : CardOf (fun p => (p.1 < k ∨ (p.1 = k ∧ p.2 < m)) ∧ G p) c) (hn : ¬ G (k, m)) : CardOf (fun p => (p.1 < k ∨ (p.1 = k ∧ p.2 < m + 1)) ∧ G p) c :=
  h.congr fun p => by
    constructor
    · rintro ⟨a | ⟨a, b⟩, d⟩
      · exact ⟨.inl a, d⟩
      · exact ⟨.inr ⟨a, by omega⟩, d⟩
    · rintro ⟨a | ⟨a, b⟩, d⟩
      · exact ⟨.inl a, d⟩
      · by_cases e : p.2 = m
        · exact absurd (by rw [show (k, m) = p from Prod.ext a.symm e.symm]; exact d) hn
        · exact ⟨.inr ⟨a, by omega⟩, d⟩
theorem card_more {k m c : Nat} {G : Nat × Nat → Prop} (h : CardOf (fun p => (p.1 < k ∨ (p.1 = k ∧ p.2 < m)) ∧ G p) c) (hg : G (k, m)) : CardOf (fun p => (p.1 < k ∨ (p.1 = k ∧ p.2 < m + 1)) ∧ G p) (c + 1) :=
  h.more (a := (k, m)) (by
    rintro ⟨a | ⟨_, a⟩, _⟩
    · exact Nat.lt_irrefl _ a
    · exact Nat.lt_irrefl _ a) fun p => by
    constructor
    · rintro ⟨a | ⟨a, b⟩, d⟩
      · exact .inr ⟨.inl a, d⟩
      · by_cases e : p.2 = m
        · exact .inl (Prod.ext a e)
        · exact .inr ⟨.inr ⟨a, by omega⟩, d⟩
    · rintro (rfl | ⟨a | ⟨a, b⟩, d⟩)
      · exact ⟨.inr ⟨rfl, Nat.lt_succ_self _⟩, hg⟩
      · exact ⟨.inl a, d⟩
      · exact ⟨.inr ⟨a, by omega⟩, d⟩
theorem Wk.over {W3 W : World} {n i : Nat} {f : Nat → Int} {x : Int} (h : Wk W3 W n (fun j => if j = i then x else f j)) (hi : i < n) (y : Int) : Wk W3 (W.setCell ⟨W3.heap.size, i, none⟩ (.int .i64 y)) n (fun j => if j = i then y else f j) := by
  have := h.put hi y
  rwa [show (fun j => if j = i then y else if j = i then x else f j) = (fun j => if j = i then y else f j) by funext j; split <;> rfl] at this
set_option maxHeartbeats 2000000 in
set_option maxRecDepth 100000 in
theorem stri_any (w : World) (S : Nat → Prop) (v : Value) (g : Gr) (h : RGr w S v g) : Calls Tryz.prog 23 #[v] w (TriR g w) := by
  have h0 := h
  obtain ⟨v1, v2, rfl, h1, h2⟩ := h
  obtain ⟨a1, c1, rfl⟩ := h1.shape
  obtain ⟨a2, c2, rfl⟩ := h2.shape
  obtain ⟨n1, hn1⟩ : ∃ n, g.nodes.length = n := ⟨_, rfl⟩
  obtain ⟨n2, hn2⟩ : ∃ n, g.edges.length = n := ⟨_, rfl⟩
  have HN1 := Lib.hid hn1
  rw [hn1, hn2] at h0
  rw [hn1, hn2]
  rw [hn1] at h1
  clear h2 hn1 hn2
  have hba := (Below.refl _ w).alloc (Nat.le_refl _) (.cells #[.slice a1 n1 c1, .slice a2 n2 c2] 32)
  have r1 := h0.below hba
  have x0 : (w.alloc (.cells #[.slice a1 n1 c1, .slice a2 n2 c2] 32)).cell? ⟨w.heap.size, 0, none⟩ = some (.slice a1 n1 c1) := by rw [World.cell?_alloc_mark]; rfl
  have x1 : (w.alloc (.cells #[.slice a1 n1 c1, .slice a2 n2 c2] 32)).cell? ⟨w.heap.size, 1, none⟩ = some (.slice a2 n2 c2) := by rw [World.cell?_alloc_mark]; rfl
  cases hg : gOk g with
  | false =>
    go_enter Tryz.func23, Tryz.ntmps23
    go_wp2_with (go_at_call 27; refine (fault_bad _ _ _ _ hg r1).mono ?_; rintro e w1 ⟨rfl, hb1⟩)
    go_ret
    exact ⟨[], ⟨(fun _ => rfl), (fun h => by rw [hg] at h; cases h)⟩, PtsR.nil _ _ _ _ ((hba.trans (hb1.mono hba.size)).alloc (Nat.le_trans hba.size hb1.size) _)⟩
  | true =>
    have hlen := (gOk_parts hg).1
    have hlen' : (n1 : Int) ≤ 200 := by have := HN1.out; omega
    obtain ⟨CN, hCN, hCNb, hmkN⟩ := make_one (T := 39) (E := 2) (z := .int .i64 0) (by' := 8) Tryz.underlying39 (by kernel_rfl) rfl (by decide) n1 (by omega)
    obtain ⟨CG, hCG, hCGb, hmkG⟩ := make_one (T := 50) (E := 4) (z := .bool false) (by' := 1) Tryz.underlying50 (by kernel_rfl) rfl (by decide) n1 (by omega)
    go_enter Tryz.func23, Tryz.ntmps23
    go_upto_region 4 with (first
      | (go_at_call 27; refine (fault_good _ _ _ _ hg r1).mono ?_; rintro e w1 ⟨rfl, hb1⟩; have r2 := r1.below hb1; have y0 := cell_kept (fun hl => hb1.block _ hl) x0; have y1 := cell_kept (fun hl => hb1.block _ hl) x1)
      | (go_at_call 28; refine (linked_any _ S _ g r2 hg).mono ?_; rintro e w2 ⟨vL, gs, rfl, hmx, hb2⟩; obtain ⟨l1, l2, l3, rfl⟩ := hmx.shape))
    have hb3 := (Below.refl _ w2).alloc (Nat.le_refl _) (.cells #[.slice l1 l2 l3] 48)
    have hb23 := hb2.trans (hb3.mono hb2.size)
    have r3 := r2.below hb23
    have z0 := cell_kept (fun hl => hb23.block _ hl) y0
    have z1 := cell_kept (fun hl => hb23.block _ hl) y1
    have zl : (w2.alloc (.cells #[.slice l1 l2 l3] 48)).cell? ⟨w2.heap.size, 0, none⟩ = some (.slice l1 l2 l3) := by rw [World.cell?_alloc_mark]; rfl
    have hmx3 := hmx.below hb3
    have hbA : Below w.heap.size w (w2.alloc (.cells #[.slice l1 l2 l3] 48)) := (hba.trans (hb1.mono hba.size)).trans (hb23.mono (Nat.le_trans hba.size hb1.size))
    have h3 := h1.below ENd.kept hbA
    clear hba hb1 hb2 hb3 hb23 r1 r2 x0 x1 y0 y1 hmx h0 h1
    obtain ⟨bL, hbL⟩ : ∃ b, w2.heap.size = b := ⟨_, rfl⟩
    rw [hbL] at zl
    generalize w2.alloc (.cells #[.slice l1 l2 l3] 48) = W3 at r3 z0 z1 zl hmx3 hbA h3 ⊢
    simp only [hbL]
    clear hbL
    have hzb := lt_of_cell z0
    have hzl := lt_of_cell zl
    have hzz := hbA.size
    rw [HN1.out] at hmx3
    have hK0 : Wk W3 (W3.alloc (.cells CN 2)) n1 (fun _ => 0) := ⟨(Below.refl _ W3).alloc (Nat.le_refl _) _, fun j hj => by rw [World.cell?_alloc_mark]; exact hCNb j hj, fun o => by rw [World.frozen?_alloc_mark]; simp⟩
    have hs0 : W3.heap.size < (W3.alloc (.cells CN 2)).heap.size := by simp
    go_upto_region 6 with fail
    generalize W3.alloc (.cells CN 2) = W4 at hK0 hs0 ⊢
    obtain ⟨M, hMe⟩ : ∃ M, lnks g.nodes g.edges = M := ⟨_, rfl⟩
    rw [hMe] at hmx3
    have HME := Lib.hid hMe
    clear hMe
    go_loopw [5, 6, 7] (fun iv _ _ wr => ∃ (i : Nat) (nums : Nat → Nat), i ≤ n1 ∧ iv = .int .i64 i ∧ Wk W3 wr n1 (fun j => ((nums j : Nat) : Int)) ∧ W3.heap.size < wr.heap.size ∧ (∀ j, j < i → CardOf (GoodT n1 M j) (nums j)) ∧ ∀ j, i ≤ j → nums j = 0) (fun iv _ _ wr => n1 - (intOf iv).toNat)
    case atStart => exact ⟨0, fun _ => 0, by omega, rfl, hK0, hs0, fun j hj => by omega, fun _ _ => rfl⟩
    case round =>
      clear hK0 hs0
      obtain ⟨i, nums, hin, rfl, K, hsz, hnums, hzero⟩ := hrel
      by_cases hlt : i < n1
      · have f0 : decide ((i : Int) < n1) = true := decide_eq_true (by omega)
        have f0' : decide (i < n1) = true := decide_eq_true hlt
        have hlt2 : (i : Int) < n1 := by omega
        have hC0 : CardOf (fun p => p.1 < 0 ∧ GoodT n1 M i p) 0 := CardOf.none (fun p h => by omega)
        have hK1 : Wk W3 wr n1 (fun j => if j = i then ((0 : Nat) : Int) else ((nums j : Nat) : Int)) := by
          rw [show (fun j => if j = i then ((0 : Nat) : Int) else ((nums j : Nat) : Int)) = fun j => ((nums j : Nat) : Int) by funext j; split; rename_i e; rw [e, hzero i (Nat.le_refl _)]; rfl]
          exact K
        clear K
        go_upto_region 9 with fail
        go_wp2_with fail
        go_loopw [6, 7] (fun kv _ wr => ∃ (k c : Nat), k ≤ n1 ∧ kv = .int .i64 k ∧ Wk W3 wr n1 (fun j => if j = i then ((c : Nat) : Int) else ((nums j : Nat) : Int)) ∧ W3.heap.size < wr.heap.size ∧ c ≤ 200 * k ∧ CardOf (fun p => p.1 < k ∧ GoodT n1 M i p) c) (fun kv _ wr => n1 - (intOf kv).toNat)
        case atStart => exact ⟨0, 0, by omega, rfl, hK1, hsz, by omega, hC0⟩
        case round =>
          clear hK1 hsz hC0
          obtain ⟨k, c, hkn, rfl, K, hsz, hc, hC⟩ := hrel
          by_cases hlk : k < n1
          · have g0 : decide ((k : Int) < n1) = true := decide_eq_true (by omega)
            have g0' : decide (k < n1) = true := decide_eq_true hlk
            have hlk2 : (k : Int) < n1 := by omega
            have hC1 : CardOf (fun p => (p.1 < k ∨ (p.1 = k ∧ p.2 < k + 1)) ∧ GoodT n1 M i p) c := hC.congr (fun p => by
              constructor
              · rintro ⟨a, b⟩; exact ⟨.inl a, b⟩
              · rintro ⟨a | ⟨a, b⟩, d⟩
                · exact ⟨a, d⟩
                · have := d.1; omega)
            clear hC
            go_upto_region 12 with fail
            go_wp2_with fail
            go_loopw [7] (fun mv wr => ∃ (m c : Nat), m ≤ n1 ∧ k + 1 ≤ m ∧ mv = .int .i64 m ∧ Wk W3 wr n1 (fun j => if j = i then ((c : Nat) : Int) else ((nums j : Nat) : Int)) ∧ W3.heap.size < wr.heap.size ∧ c ≤ 200 * k + m ∧ CardOf (fun p => (p.1 < k ∨ (p.1 = k ∧ p.2 < m)) ∧ GoodT n1 M i p) c) (fun mv wr => n1 - (intOf mv).toNat)
            case atStart => exact ⟨k + 1, c, by omega, Nat.le_refl _, by first | rfl | go_num, K, hsz, by omega, hC1⟩
            case round =>
              clear K hsz hC1 hc
              obtain ⟨m, c, hmn, hkm, rfl, K, hsz, hc, hC⟩ := hrel
              by_cases hlm : m < n1
              · have h0 : decide ((m : Int) < n1) = true := decide_eq_true (by omega)
                have h0' : decide (m < n1) = true := decide_eq_true hlm
                have hlm2 : (m : Int) < n1 := by omega
                have ql := cell_kept (fun hl => K.below.block _ hl) zl
                obtain ⟨gO, cO, hve, hrow⟩ := hmx3.rowcell hlt
                injection hve with e1 e2 e3
                rw [e1, e2] at ql hmx3
                clear e1 e2 e3
                have hmw := hmx3.below K.below
                have ri : wr.cell? ⟨gO, i, none⟩ = some (.slice (some ⟨gs i, 0, none⟩) n1 n1) := cell_kept (fun hl => K.below.block _ hl) (hrow i hlt)
                have rk : wr.cell? ⟨gO, k, none⟩ = some (.slice (some ⟨gs k, 0, none⟩) n1 n1) := cell_kept (fun hl => K.below.block _ hl) (hrow k hlk)
                have z1 := hmw.cell i hlt k hlk
                have z2 := hmw.cell i hlt m hlm
                have z3 := hmw.cell k hlk m hlm
                have z5 := K.num i hlt
                rw [if_pos rfl] at z5
                have z6 := K.fro i
                have hcb : (c : Int) ≤ 1000000 := by omega
                have hz0 : IntKind.i64.wrap ((c : Int) + 0) = (c : Int) := wrap64_of _ (by omega) (by omega)
                have hz1 : IntKind.i64.wrap ((c : Int) + 1) = (c : Int) + 1 := wrap64_of _ (by omega) (by omega)
                have hik : (i : Int) < n1 := by omega
                go_upto_region 14 with fail
                refine tail_quiet 37 (by kernel_rfl) (by kernel_rfl) ?_
                intro W1 hW1
                have K1 : Wk W3 W1 n1 (fun j => if j = i then ((c : Nat) : Int) else ((nums j : Nat) : Int)) := by rw [hW1]; exact K.step hsz (below_drew wr)
                have hsz1 : W3.heap.size < W1.heap.size := by rw [hW1]; exact hsz
                have ql1 : W1.cell? ⟨bL, 0, none⟩ = some (.slice (some ⟨gO, 0, none⟩) n1 l3) := by rw [hW1]; exact ql
                have ri1 : W1.cell? ⟨gO, i, none⟩ = some (.slice (some ⟨gs i, 0, none⟩) n1 n1) := by rw [hW1]; exact ri
                have rk1 : W1.cell? ⟨gO, k, none⟩ = some (.slice (some ⟨gs k, 0, none⟩) n1 n1) := by rw [hW1]; exact rk
                have y1 : W1.cell? ⟨gs i, k, none⟩ = some (.bool (M i k)) := by rw [hW1]; exact z1
                have y2 : W1.cell? ⟨gs i, m, none⟩ = some (.bool (M i m)) := by rw [hW1]; exact z2
                have y3 : W1.cell? ⟨gs k, m, none⟩ = some (.bool (M k m)) := by rw [hW1]; exact z3
                have y5 : W1.cell? ⟨W3.heap.size, i, none⟩ = some (.int .i64 c) := by rw [hW1]; exact z5
                have y6 : W1.frozen? ⟨W3.heap.size, i, none⟩ = false := by rw [hW1]; exact z6
                clear hW1 z1 z2 z3 z5 z6 ql ri rk K hsz
                simp only [List.take_succ_cons, List.take_zero, List.drop_succ_cons, List.drop_zero]
                cases hM1 : M i k with
                | false =>
                  rw [hM1] at y1
                  have hC2 := card_stay hC (fun q => by have := q.2.2.1; rw [hM1] at this; cases this)
                  clear hC hM1 y2 y3 hnums hzero
                  repeat (first | go_big_quiet_skip | (go_big_quiet_want; go_big_quiet_op; first | go_big_quiet_on | (refine ⟨_, sbool_false _, ?_⟩; go_big_quiet_on)))
                  refine wpQuiet_nil ?_
                  go_wp2_with fail
                  go_round
                  case rel =>
                    refine ⟨m + 1, c, by omega, by omega, by first | rfl | go_num, ?_, by simp [World.setCell]; exact hsz1, by omega, hC2⟩
                    exact K1.over hlt _
                  case measure => first | (simp [intOf]; done) | (simp [intOf]; omega)
                | true =>
                  rw [hM1] at y1
                  cases hM2 : M i m with
                  | false =>
                    rw [hM2] at y2
                    have hC2 := card_stay hC (fun q => by have := q.2.2.2.1; rw [hM2] at this; cases this)
                    clear hC hM1 hM2 y3 hnums hzero
                    repeat (first | go_big_quiet_skip | (go_big_quiet_want; go_big_quiet_op; first | go_big_quiet_on | (refine ⟨_, sbool_false _, ?_⟩; go_big_quiet_on)))
                    refine wpQuiet_nil ?_
                    go_wp2_with fail
                    go_round
                    case rel =>
                      refine ⟨m + 1, c, by omega, by omega, by first | rfl | go_num, ?_, by simp [World.setCell]; exact hsz1, by omega, hC2⟩
                      exact K1.over hlt _
                    case measure => first | (simp [intOf]; done) | (simp [intOf]; omega)
                  | true =>
                    rw [hM2] at y2
                    cases hM3 : M k m with
                    | false =>
                      rw [hM3] at y3
                      have hC2 := card_stay hC (fun q => by have := q.2.2.2.2; rw [hM3] at this; cases this)
                      clear hC hM1 hM2 hM3 hnums hzero
                      repeat (first | go_big_quiet_skip | (go_big_quiet_want; go_big_quiet_op; first | go_big_quiet_on | (refine ⟨_, sbool_false _, ?_⟩; go_big_quiet_on)))
                      refine wpQuiet_nil ?_
                      go_wp2_with fail
                      go_round
                      case rel =>
                        refine ⟨m + 1, c, by omega, by omega, by first | rfl | go_num, ?_, by simp [World.setCell]; exact hsz1, by omega, hC2⟩
                        exact K1.over hlt _
                      case measure => first | (simp [intOf]; done) | (simp [intOf]; omega)
                    | true =>
                      rw [hM3] at y3
                      have hC2 := card_more hC (⟨by show k < m; omega, hlm, hM1, hM2, hM3⟩)
                      clear hC hM1 hM2 hM3 hnums hzero
                      repeat (first | go_big_quiet_skip | (go_big_quiet_want; go_big_quiet_op; first | go_big_quiet_on | (refine ⟨_, sbool_true _, ?_⟩; go_big_quiet_on)))
                      refine wpQuiet_nil ?_
                      go_wp2_with fail
                      go_round
                      case rel =>
                        refine ⟨m + 1, c + 1, by omega, by omega, by first | rfl | go_num, ?_, by simp [World.setCell]; exact hsz1, by omega, hC2⟩
                        exact K1.over hlt _
                      case measure => first | (simp [intOf]; done) | (simp [intOf]; omega)
              · have h0 : decide ((m : Int) < n1) = false := decide_eq_false (by omega)
                have h0' : decide (m < n1) = false := decide_eq_false hlm
                have hlm2 : ¬ (m : Int) < n1 := by omega
                have hC2 : CardOf (fun p => p.1 < k + 1 ∧ GoodT n1 M i p) c := hC.congr (fun p => by
                  constructor
                  · rintro ⟨a, b⟩; exact ⟨by omega, b⟩
                  · rintro ⟨a, b⟩
                    have hb := b.2.1
                    refine ⟨?_, b⟩
                    by_cases e : p.1 = k
                    · exact .inr ⟨e, by omega⟩
                    · exact .inl (by omega))
                have hc2 : c ≤ 200 * (k + 1) := by omega
                clear hC hc
                go_wp2_with fail
                go_round
                case rel => exact ⟨k + 1, c, by omega, by first | rfl | go_num, K, hsz, hc2, hC2⟩
                case measure => first | (simp [intOf]; done) | (simp [intOf]; omega)
          · have g0 : decide ((k : Int) < n1) = false := decide_eq_false (by omega)
            have g0' : decide (k < n1) = false := decide_eq_false hlk
            have hlk2 : ¬ (k : Int) < n1 := by omega
            have hC2 : CardOf (GoodT n1 M i) c := hC.congr (fun p => by
              constructor
              · exact fun q => q.2
              · exact fun q => ⟨by have := q.1; have := q.2.1; omega, q⟩)
            clear hC hc
            go_wp2_with fail
            go_round
            case rel =>
              refine ⟨i + 1, fun j => if j = i then c else nums j, by omega, by first | rfl | go_num, ?_, hsz, fun j hj => ?_, fun j hj => ?_⟩
              · rw [show (fun j => (((if j = i then c else nums j) : Nat) : Int)) = (fun j => if j = i then ((c : Nat) : Int) else ((nums j : Nat) : Int)) by funext j; split <;> rfl]
                exact K
              · show CardOf (GoodT n1 M j) (if j = i then c else nums j)
                by_cases e : j = i
                · subst e; rw [if_pos rfl]; exact hC2
                · rw [if_neg e]; exact hnums j (by omega)
              · show (if j = i then c else nums j) = 0
                rw [if_neg (by omega)]; exact hzero j (by omega)
            case measure => first | (simp [intOf]; done) | (simp [intOf]; omega)
      · have f0 : decide ((i : Int) < n1) = false := decide_eq_false (by omega)
        have f0' : decide (i < n1) = false := decide_eq_false hlt
        have hlt2 : ¬ (i : Int) < n1 := by omega
        have hw := gw_of hg
        have q1 := cell_kept (fun hl => K.below.block _ hl) z1
        have rr := r3.below K.below
        have hf : ∀ id ∈ idsOf g.nodes, CardOf (Tri g.edges id) (nums (posN g.nodes id 0).toNat) := fun id hid => by
          obtain ⟨p, hp, p1, p2⟩ := gOk_pos hw hid
          subst p2
          simp only [p1, Int.toNat_natCast]
          refine good_tri hw hp ?_
          rw [HN1.out, HME.out]
          exact hnums p (by have := HN1.out; omega)
        have hcl : Calls Tryz.prog 30 #[.agg #[.slice a1 n1 c1, .slice a2 n2 c2], .slice (some ⟨W3.heap.size, 0, none⟩) n1 n1] wr (PtsR (ptsOf g.nodes (fun id => ((nums (posN g.nodes id 0).toNat : Nat) : Int))) wr) := by
          have := sparts_any wr S _ g rr hlen W3.heap.size n1 (fun id => ((nums (posN g.nodes id 0).toNat : Nat) : Int)) (fun j hj => by
            simp only [gOk_posAt hw hj, Int.toNat_natCast]
            exact K.num j (by rw [← HN1.out]; exact hj))
          rwa [HN1.out] at this
        have q0 := cell_kept (fun hl => K.below.block _ hl) z0
        go_wp2_with (go_at_call 30; refine hcl.mono ?_; rintro e w6 ⟨vv, rfl, p1, p2, hb6⟩)
        go_ret
        have hbW := hbA.trans (K.below.mono hbA.size)
        exact ⟨_, ⟨(fun h => by rw [hg] at h; cases h), (fun _ => ⟨_, hf, rfl⟩)⟩, vv, rfl, p1.mono EPt.mono (fun b hb => Nat.le_trans hbW.size hb), Own.low p2 hbW.size, hbW.trans (hb6.mono hbW.size)⟩
end Go.Proofs.YtaoccbhdlkflfaaGreatDoor
