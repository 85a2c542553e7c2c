/- Texts of one proof, joined in their order: each bears its own word of what it holds and on what condition. -/
import Derived.Test.YtbaljljlahhkfaaGreatDoorMYi
set_option linter.unusedVariables false
set_option linter.unusedSimpArgs false
/- The specification's Cores, whole. No condition on the graph. -/
set_option linter.unusedVariables false
set_option linter.unusedSimpArgs false
namespace Go.Proofs.YtbaljljlahhkfaaGreatDoor
open Go.RowKit Go.Sort

theorem deg_card (n : Nat) (M : Nat → Nat → Bool) (gone : Nat → Bool) (i : Nat) : CardOf (fun j => j < n ∧ M i j = true ∧ gone j = false) ((List.range n).filter fun j => M i j && !gone j).length :=
  ⟨(List.range n).filter fun j => M i j && !gone j, List.nodup_range.filter _, fun x => by rw [List.mem_filter, List.mem_range, Bool.and_eq_true, Bool.not_eq_true'], rfl⟩
/-- each that is left counts more than k, below place m -/
def Stab (n : Nat) (M : Nat → Nat → Bool) (gone : Nat → Bool) (k m : Nat) : Prop := ∀ j, j < m → gone j = false → ∃ d, k + 1 ≤ d ∧ CardOf (fun u => u < n ∧ M j u = true ∧ gone u = false) d
/-- while level k is peeled -/
def Pk (g : Gr) (k : Nat) (gone : Nat → Bool) (nums : Nat → Nat) : Prop := Peel (PId g.nodes) (CNb g.edges) k (Lf g.nodes gone) (fun id => nums (posN g.nodes id 0).toNat)
theorem Pk.start {g : Gr} (h : Gw g) (nums : Nat → Nat) : Pk g 0 (fun _ => false) nums :=
  (Peel.start (P := PId g.nodes) (C := CNb g.edges) _ (fun v hv => by
    obtain ⟨i, hi, _, rfl⟩ := gOk_pos h hv
    refine ⟨_, (card_ids (gone := fun _ => false) h hi (deg_card _ _ _ i)).congr fun u => ?_⟩
    constructor
    · exact fun q => ⟨q.1, (lf_all _ _).1 q.2⟩
    · exact fun q => ⟨q.1, (lf_all _ _).2 q.2⟩)).congr (fun v => (lf_all _ v).symm) (fun _ _ _ => rfl)
theorem Pk.drop {g : Gr} (h : Gw g) {k i d : Nat} {gone : Nat → Bool} {nums : Nat → Nat} (hP : Pk g k gone nums) (hi : i < g.nodes.length) (hg : gone i = false) (hc : CardOf (fun j => j < g.nodes.length ∧ lnks g.nodes g.edges i j = true ∧ gone j = false) d) (hd : d ≤ k) : Pk g k (setT gone i) (updP nums i k) := by
  have hpos : ∀ u, (posN g.nodes u 0).toNat = i → PId g.nodes u → u = g.nodes[i].id := fun u e hu => by
    obtain ⟨j, hj, j1, rfl⟩ := gOk_pos h hu
    rw [j1, Int.toNat_natCast] at e
    subst e
    rfl
  have := Peel.drop (f' := fun id => if id = g.nodes[i].id then k else nums (posN g.nodes id 0).toNat) CNb.mono hP ((lf_at h hi).2 hg) (card_ids h hi hc) hd (S' := Lf g.nodes (setT gone i)) (fun u => lf_less h hi u) (fun u hu => if_neg hu) (if_pos rfl)
  refine this.congr (fun _ => Iff.rfl) (fun v hv _ => ?_)
  unfold updP
  by_cases e : v = g.nodes[i].id
  · subst e
    rw [if_pos rfl, gOk_posAt h hi, Int.toNat_natCast, if_pos rfl]
  · rw [if_neg e, if_neg (fun q => e (hpos v q hv))]
theorem Pk.next {g : Gr} (h : Gw g) {k : Nat} {gone : Nat → Bool} {nums : Nat → Nat} (hP : Pk g k gone nums) (hs : Stab g.nodes.length (lnks g.nodes g.edges) gone k g.nodes.length) : Pk g (k + 1) gone nums :=
  Peel.next hP (fun v hv => by
    obtain ⟨i, hi, q, rfl⟩ := hv
    obtain ⟨d, hd, hc⟩ := hs i hi q
    exact ⟨d, hd, card_ids h hi hc⟩)
theorem Pk.le {g : Gr} (h : Gw g) {k : Nat} {gone : Nat → Bool} {nums : Nat → Nat} (hP : Pk g k gone nums) {i : Nat} (hi : i < g.nodes.length) (hg : gone i = false) : k ≤ g.nodes.length := by
  have := Peel.bound hP ((lf_at h hi).2 hg) (idsOf g.nodes) (fun T u q => q.mem h)
  unfold idsOf at this
  rwa [List.length_map] at this
theorem Pk.done {g : Gr} (h : Gw g) {k : Nat} {gone : Nat → Bool} {nums : Nat → Nat} (hP : Pk g k gone nums) (hn : ∀ j, j < g.nodes.length → gone j = true) : ∀ id ∈ idsOf g.nodes, CoreIs (PId g.nodes) (CNb g.edges) id (nums (posN g.nodes id 0).toNat) :=
  Peel.done hP (fun v ⟨j, hj, q, _⟩ => by rw [hn j hj] at q; cases q)
theorem left_less {n i left : Nat} {gone : Nat → Bool} (h : CardOf (fun j => j < n ∧ gone j = false) left) (hi : i < n) (hg : gone i = false) : 0 < left ∧ CardOf (fun j => j < n ∧ setT gone i j = false) (left - 1) :=
  h.less (a := i) ⟨hi, hg⟩ (fun x => by
    by_cases e : x = i
    · subst e; rw [setT_at]; simp
    · rw [setT_ne e]
      constructor
      · exact fun q => ⟨q, e⟩
      · exact fun q => q.1)
theorem sdeg_is (W : World) (base n : Nat) (hn : n ≤ 200) (v : Value) (gs : Nat → Nat) (M : Nat → Nat → Bool) (x : Nat) (hx : x < n) (gG cG : Nat) (gone : Nat → Bool) (d : Nat) (hc : CardOf (fun j => j < n ∧ M x j = true ∧ gone j = false) d) (w : World) (hM : Mx base w v n n gs M) (hG : ∀ j, j < n → w.cell? ⟨gG, j, none⟩ = some (.bool (gone j))) :
    Calls Tryz.prog 48 #[.agg #[v], .int .i64 x, .slice (some ⟨gG, 0, none⟩) n cG] w (fun e w' => e = .returned (.int .i64 d) ∧ Below w.heap.size w w') :=
  (sdegreeG_any w base n hn v gs M hM x hx gG cG gone hG).mono (by
    rintro e w' ⟨d', rfl, _, hc', hb⟩
    rw [CardOf.same hc' hc]
    exact ⟨rfl, hb⟩)
set_option maxHeartbeats 2000000 in
set_option maxRecDepth 100000 in
theorem scores_any (w : World) (S : Nat → Prop) (v : Value) (g : Gr) (h : RGr w S v g) : Calls Tryz.prog 17 #[v] w (CoreR g w) := by
  have h0 := h
  obtain ⟨v1, v2, rfl, h1, h2⟩ := h
  obtain ⟨a1, c1, rfl⟩ := h1.shape
  obtain ⟨a2, c2, rfl⟩ := h2.shape
  obtain ⟨n1, hn1⟩ : ∃ n, g.nodes.length = n := ⟨_, rfl⟩
  obtain ⟨n2, hn2⟩ : ∃ n, g.edges.length = n := ⟨_, rfl⟩
  have HN1 := Lib.hid hn1
  rw [hn1, hn2] at h0
  rw [hn1, hn2]
  rw [hn1] at h1
  clear h2 hn1 hn2
  have hba := (Below.refl _ w).alloc (Nat.le_refl _) (.cells #[.slice a1 n1 c1, .slice a2 n2 c2] 32)
  have r1 := h0.below hba
  have x0 : (w.alloc (.cells #[.slice a1 n1 c1, .slice a2 n2 c2] 32)).cell? ⟨w.heap.size, 0, none⟩ = some (.slice a1 n1 c1) := by rw [World.cell?_alloc_mark]; rfl
  have x1 : (w.alloc (.cells #[.slice a1 n1 c1, .slice a2 n2 c2] 32)).cell? ⟨w.heap.size, 1, none⟩ = some (.slice a2 n2 c2) := by rw [World.cell?_alloc_mark]; rfl
  cases hg : gOk g with
  | false =>
    go_enter Tryz.func17, Tryz.ntmps17
    go_wp2_with (go_at_call 33; refine (fault_bad _ _ _ _ hg r1).mono ?_; rintro e w1 ⟨rfl, hb1⟩)
    go_ret
    exact ⟨[], ⟨(fun _ => rfl), (fun h => by rw [hg] at h; cases h)⟩, PtsR.nil _ _ _ _ ((hba.trans (hb1.mono hba.size)).alloc (Nat.le_trans hba.size hb1.size) _)⟩
  | true =>
    have hlen := (gOk_parts hg).1
    have hlen' : (n1 : Int) ≤ 200 := by have := HN1.out; omega
    obtain ⟨CN, hCN, hCNb, hmkN⟩ := make_one (T := 39) (E := 2) (z := .int .i64 0) (by' := 8) Tryz.underlying39 (by kernel_rfl) rfl (by decide) n1 (by omega)
    obtain ⟨CG, hCG, hCGb, hmkG⟩ := make_one (T := 55) (E := 4) (z := .bool false) (by' := 1) Tryz.underlying55 (by kernel_rfl) rfl (by decide) n1 (by omega)
    go_enter Tryz.func17, Tryz.ntmps17
    go_upto_region 4 with (first
      | (go_at_call 33; refine (fault_good _ _ _ _ hg r1).mono ?_; rintro e w1 ⟨rfl, hb1⟩; have r2 := r1.below hb1; have y0 := cell_kept (fun hl => hb1.block _ hl) x0; have y1 := cell_kept (fun hl => hb1.block _ hl) x1)
      | (go_at_call 34; refine (linked_any _ S _ g r2 hg).mono ?_; rintro e w2 ⟨vL, gs, rfl, hmx, hb2⟩; obtain ⟨l1, l2, l3, rfl⟩ := hmx.shape))
    have hb3 := (Below.refl _ w2).alloc (Nat.le_refl _) (.cells #[.slice l1 l2 l3] 53)
    have hb23 := hb2.trans (hb3.mono hb2.size)
    have r3 := r2.below hb23
    have z0 := cell_kept (fun hl => hb23.block _ hl) y0
    have z1 := cell_kept (fun hl => hb23.block _ hl) y1
    have zl : (w2.alloc (.cells #[.slice l1 l2 l3] 53)).cell? ⟨w2.heap.size, 0, none⟩ = some (.slice l1 l2 l3) := by rw [World.cell?_alloc_mark]; rfl
    have hmx3 := hmx.below hb3
    have hbA : Below w.heap.size w (w2.alloc (.cells #[.slice l1 l2 l3] 53)) := (hba.trans (hb1.mono hba.size)).trans (hb23.mono (Nat.le_trans hba.size hb1.size))
    have h3 := h1.below ENd.kept hbA
    clear hba hb1 hb2 hb3 hb23 r1 r2 x0 x1 y0 y1 hmx h0 h1
    obtain ⟨bL, hbL⟩ : ∃ b, w2.heap.size = b := ⟨_, rfl⟩
    rw [hbL] at zl
    generalize w2.alloc (.cells #[.slice l1 l2 l3] 53) = W3 at r3 z0 z1 zl hmx3 hbA h3 ⊢
    simp only [hbL]
    clear hbL
    have hzb := lt_of_cell z0
    have hzl := lt_of_cell zl
    have hzz := hbA.size
    rw [HN1.out] at hmx3
    obtain ⟨M, hMe⟩ : ∃ M, lnks g.nodes g.edges = M := ⟨_, rfl⟩
    rw [hMe] at hmx3
    have HME := Lib.hid hMe
    clear hMe
    have hw := gw_of hg
    obtain ⟨gG, hgG⟩ : ∃ b, W3.heap.size = b := ⟨_, rfl⟩
    obtain ⟨gN, hgN⟩ : ∃ b, gG + 1 = b := ⟨_, rfl⟩
    have z0a : ∀ o, (W3.alloc o).cell? ⟨w.heap.size, 0, none⟩ = some (.slice a1 n1 c1) := fun o => cell_alloc z0 o
    have z0b : ∀ o o', ((W3.alloc o).alloc o').cell? ⟨w.heap.size, 0, none⟩ = some (.slice a1 n1 c1) := fun o o' => cell_alloc (cell_alloc z0 o) o'
    have hsz0 : ((W3.alloc (.cells CG 4)).alloc (.cells CN 2)).heap.size = gN + 1 := by simp; omega
    have hK0 : Wg W3 ((W3.alloc (.cells CG 4)).alloc (.cells CN 2)) gG gN n1 (fun _ => false) (fun _ => 0) := by
      have e1 : (W3.alloc (.cells CG 4)).heap.size = gN := by simp; omega
      have b2 := (Below.refl _ (W3.alloc (.cells CG 4))).alloc (Nat.le_refl _) (.cells CN 2)
      refine ⟨((Below.refl _ W3).alloc (Nat.le_refl _) _).trans (b2.mono (by simp)), fun j hj => cell_alloc (by rw [← hgG, World.cell?_alloc_mark]; exact hCGb j hj) _, fun j hj => by rw [← e1, World.cell?_alloc_mark]; exact hCNb j hj, fun o => ?_, fun o => by rw [← e1, World.frozen?_alloc_mark]; simp, by rw [hsz0]; omega, by rw [hsz0]; omega⟩
      refine (World.frozen?_of_block (a := ⟨gG, o, none⟩) (b2.block gG (by rw [e1]; omega))).trans ?_
      rw [← hgG, World.frozen?_alloc_mark]
      simp
    go_upto_region 8 with fail
    have hP0 := Pk.start hw (fun _ => 0)
    have hC0 := card_all n1
    have hn2 : (n1 : Int) ≤ 200 := hlen'
    have HGN := Lib.hid (show W3.heap.size ≤ gG ∧ W3.heap.size ≤ gN ∧ gG ≠ gN by omega)
    clear hgG hgN z0a z0b hsz0
    generalize (W3.alloc (.cells CG 4)).alloc (.cells CN 2) = W4 at hK0 ⊢
    go_loopw [6, 7, 8, 9] (fun lv kv _ _ wr => ∃ (k left : Nat) (gone : Nat → Bool) (nums : Nat → Nat), lv = .int .i64 left ∧ kv = .int .i64 k ∧ Wg W3 wr gG gN n1 gone nums ∧ CardOf (fun j => j < n1 ∧ gone j = false) left ∧ Pk g k gone nums ∧ k ≤ n1 + 1) (fun _ kv _ _ _ => n1 + 2 - (intOf kv).toNat)
    case atStart => exact ⟨0, n1, _, _, rfl, rfl, hK0, hC0, hP0, by omega⟩
    case round =>
      clear hK0 hP0 hC0
      obtain ⟨k, left, gone, nums, rfl, rfl, K, hC, hP, hk⟩ := hrel
      by_cases hl : 0 < left
      · have f0 : decide ((0 : Int) < left) = true := decide_eq_true (by omega)
        have f0' : decide (0 < left) = true := decide_eq_true hl
        have f0'' : (0 : Int) < left := by omega
        have hk1 : k ≤ n1 := by
          obtain ⟨j, hj, hgj⟩ := hC.pos.1 hl
          have := hP.le hw (by rw [HN1.out]; exact hj) hgj
          rwa [HN1.out] at this
        have hw1 : IntKind.i64.wrap ((k : Int) + 1) = (k : Int) + 1 := wrap64_of _ (by omega) (by omega)
        go_upto_region 11 with fail
        go_wp2_with fail
        go_loopw [6, 8, 9] (fun lv mv _ wr => ∃ (more : Bool) (left : Nat) (gone : Nat → Bool) (nums : Nat → Nat), lv = .int .i64 left ∧ mv = .bool more ∧ Wg W3 wr gG gN n1 gone nums ∧ CardOf (fun j => j < n1 ∧ gone j = false) left ∧ Pk g k gone nums ∧ (more = false → Stab n1 M gone k n1)) (fun lv mv _ _ => 2 * (intOf lv).toNat + moreOf mv)
        case atStart => exact ⟨true, left, gone, nums, rfl, rfl, K, hC, hP, fun q => by cases q⟩
        case round =>
          clear K hC hP hl f0 f0' f0''
          obtain ⟨more, left, gone, nums, rfl, rfl, K, hC, hP, hst⟩ := hrel
          cases more with
          | false =>
            have hP2 := hP.next hw (by rw [HN1.out, HME.out]; exact hst rfl)
            clear hst
            go_wp2_with fail
            go_round
            case rel => exact ⟨k + 1, left, gone, nums, rfl, by first | rfl | go_num, K, hC, hP2, by omega⟩
            case measure => first | (simp [intOf]; done) | (simp [intOf]; omega)
          | true =>
            clear hst
            go_upto_region 14 with fail
            go_wp2_with fail
            go_loopw [6, 8, 9] (fun lv mv iv wr => ∃ (i : Nat) (more : Bool) (left' : Nat) (gone : Nat → Bool) (nums : Nat → Nat), i ≤ n1 ∧ iv = .int .i64 i ∧ lv = .int .i64 left' ∧ mv = .bool more ∧ Wg W3 wr gG gN n1 gone nums ∧ CardOf (fun j => j < n1 ∧ gone j = false) left' ∧ Pk g k gone nums ∧ (more = false → Stab n1 M gone k i) ∧ left' ≤ left ∧ (more = true → left' < left)) (fun _ _ iv _ => n1 - (intOf iv).toNat)
            case atStart => exact ⟨0, false, left, gone, nums, by omega, rfl, rfl, rfl, K, hC, hP, fun _ j hj => by omega, Nat.le_refl _, fun q => by cases q⟩
            case round =>
              clear K hC hP
              obtain ⟨i, more, lf, gone, nums, hin, rfl, rfl, rfl, K, hC, hP, hst, hle, hlt2⟩ := hrel
              by_cases hlt : i < n1
              · have g0 : decide ((i : Int) < n1) = true := decide_eq_true (by omega)
                have g0' : decide (i < n1) = true := decide_eq_true hlt
                have hin2 : (i : Int) < n1 := by omega
                have z4 := K.gon i hlt
                have zl2 := cell_kept (fun hl => K.below.block _ hl) zl
                have hmw := hmx3.below K.below
                have hdc := deg_card n1 M gone i
                obtain ⟨d, hd⟩ : ∃ d, ((List.range n1).filter fun j => M i j && !gone j).length = d := ⟨_, rfl⟩
                rw [hd] at hdc
                clear hd
                cases hgi : gone i with
                | true =>
                  rw [hgi] at z4
                  have hst2 : more = false → Stab n1 M gone k (i + 1) := fun q j hj hgj => by
                    by_cases e : j = i
                    · subst e; rw [hgi] at hgj; cases hgj
                    · exact hst q j (by omega) hgj
                  clear hst hgi
                  go_wp2_with fail
                  go_round
                  case rel => exact ⟨i + 1, more, lf, gone, nums, by omega, by first | rfl | go_num, rfl, rfl, K, hC, hP, hst2, hle, hlt2⟩
                  case measure => first | (simp [intOf]; done) | (simp [intOf]; omega)
                | false =>
                  rw [hgi] at z4
                  have hcl := sdeg_is wr w1.heap.size n1 (by omega) (.slice l1 l2 l3) gs M i hlt gG n1 gone d hdc wr hmw K.gon
                  by_cases hdk : d ≤ k
                  · have e1 : decide ((d : Int) ≤ k) = true := decide_eq_true (by omega)
                    have e1' : decide (d ≤ k) = true := decide_eq_true hdk
                    have hP2 := hP.drop hw (by rw [HN1.out]; exact hlt) hgi (by rw [HN1.out, HME.out]; exact hdc) hdk
                    obtain ⟨hpos, hC2⟩ := left_less hC hlt hgi
                    have hls : ((lf : Int) - 1) = ((lf - 1 : Nat) : Int) := by omega
                    have hl200 : lf ≤ 200 := by
                      obtain ⟨L, h1, h2, h3⟩ := hC
                      have := nodup_le L (List.range n1) h1 (fun x hx => List.mem_range.2 ((h2 x).1 hx).1)
                      rw [List.length_range] at this
                      omega
                    have hw2 : IntKind.i64.wrap ((lf : Int) - 1) = ((lf - 1 : Nat) : Int) := by rw [hls]; exact wrap64_of _ (by omega) (by omega)
                    clear hst hgi hdc hC hP hls hdk
                    go_upto_region 17 with (go_at_call 48; refine hcl.mono ?_; rintro e w5 ⟨rfl, hb5⟩)
                    have K5 := K.step hb5
                    have y4 := K5.gon i hlt
                    have y5 := K5.froG i
                    clear z4 hcl hb5 zl2 hmw
                    go_upto_region 18 with fail
                    have K6 := K5.putG HGN.out.1 HGN.out.2.2 hlt
                    clear y4 y5 K5 K
                    generalize w5.setCell ⟨gG, i, none⟩ (.bool true) = w6 at K6 ⊢
                    have y4 := K6.num i hlt
                    have y5 := K6.froN i
                    have K7 := K6.putN HGN.out.2.1 HGN.out.2.2 hlt k
                    go_wp2_with fail
                    go_round
                    case rel => exact ⟨i + 1, true, lf - 1, _, _, by omega, by first | rfl | go_num, rfl, rfl, K7, hC2, hP2, (fun q => by cases q), by omega, (fun _ => by omega)⟩
                    case measure => first | (simp [intOf]; done) | (simp [intOf]; omega)
                  · have e1 : decide ((d : Int) ≤ k) = false := decide_eq_false (by omega)
                    have e1' : decide (d ≤ k) = false := decide_eq_false hdk
                    have e1'' : (k : Int) < d := by omega
                    have hst2 : more = false → Stab n1 M gone k (i + 1) := fun q j hj hgj => by
                      by_cases e : j = i
                      · subst e; exact ⟨d, by omega, hdc⟩
                      · exact hst q j (by omega) hgj
                    clear hst hgi hdc hdk
                    go_wp2_with (go_at_call 48; refine hcl.mono ?_; rintro e w5 ⟨rfl, hb5⟩)
                    have K5 := K.step hb5
                    go_round
                    case rel => exact ⟨i + 1, more, lf, gone, nums, by omega, by first | rfl | go_num, rfl, rfl, K5, hC, hP, hst2, hle, hlt2⟩
                    case measure => first | (simp [intOf]; done) | (simp [intOf]; omega)
              · have g0 : decide ((i : Int) < n1) = false := decide_eq_false (by omega)
                have g0' : decide (i < n1) = false := decide_eq_false hlt
                have hin2 : ¬ (i : Int) < n1 := by omega
                have hst2 : more = false → Stab n1 M gone k n1 := fun q j hj hgj => hst q j (by omega) hgj
                clear hst
                go_wp2_with fail
                go_round
                case rel => exact ⟨more, lf, gone, nums, rfl, rfl, K, hC, hP, hst2⟩
                case measure =>
                  cases more with
                  | true => have := hlt2 rfl; simp [intOf, moreOf]; omega
                  | false => simp [intOf, moreOf]; omega
      · have hl0 : left = 0 := by omega
        have f0 : decide ((0 : Int) < left) = false := decide_eq_false (by omega)
        have f0' : decide (0 < left) = false := decide_eq_false hl
        have f0'' : ¬ (0 : Int) < left := by omega
        have hall : ∀ j, j < n1 → gone j = true := fun j hj => by
          cases q : gone j with
          | true => rfl
          | false => exact absurd (hC.pos.2 ⟨j, hj, q⟩) hl
        have hf := hP.done hw (by rw [HN1.out]; exact hall)
        have q0 := cell_kept (fun hl => K.below.block _ hl) z0
        have q1 := cell_kept (fun hl => K.below.block _ hl) z1
        have rr := r3.below K.below
        have hcl : Calls Tryz.prog 36 #[.agg #[.slice a1 n1 c1, .slice a2 n2 c2], .slice (some ⟨gN, 0, none⟩) n1 n1] wr (PtsR (ptsOf g.nodes (fun id => ((nums (posN g.nodes id 0).toNat : Nat) : Int))) wr) := by
          have := sparts_any wr S _ g rr hlen gN n1 (fun id => ((nums (posN g.nodes id 0).toNat : Nat) : Int)) (fun j hj => by
            simp only [gOk_posAt hw hj, Int.toNat_natCast]
            exact K.num j (by rw [← HN1.out]; exact hj))
          rwa [HN1.out] at this
        clear hl0 hall
        go_wp2_with (go_at_call 36; refine hcl.mono ?_; rintro e w6 ⟨vv, rfl, p1, p2, hb6⟩)
        go_ret
        have hbW := hbA.trans (K.below.mono hbA.size)
        exact ⟨_, ⟨(fun h => by rw [hg] at h; cases h), (fun _ => ⟨_, hf, rfl⟩)⟩, vv, rfl, p1.mono EPt.mono (fun b hb => Nat.le_trans hbW.size hb), Own.low p2 hbW.size, hbW.trans (hb6.mono hbW.size)⟩
end Go.Proofs.YtbaljljlahhkfaaGreatDoor
