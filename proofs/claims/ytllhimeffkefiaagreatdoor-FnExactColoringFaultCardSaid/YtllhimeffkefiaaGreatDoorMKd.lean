/- Texts of one proof, joined in their order: each bears its own word of what it holds and on what condition. -/
import Derived.Test.YtllhimeffkefiaaGreatDoorMKc
set_option linter.unusedVariables false
set_option linter.unusedSimpArgs false
/- impl's coloringOk and ColoringFault, walked. Condition: the library's variables are as they were laid; the count is a number of 64 bits. -/
set_option linter.unusedVariables false
set_option linter.unusedSimpArgs false
namespace Go.Proofs.YtllhimeffkefiaaGreatDoor
open Go.RowKit Go.Sort

theorem card_upto {cs : List Pt} {cnt : Int} {n : Nat} (hc : CardOf (fun y => ∃ p ∈ cs, p.num = y) n) (h0 : 0 ≤ cnt) (hr : ∀ p ∈ cs, 1 ≤ p.num ∧ p.num ≤ cnt) : (n : Int) = cnt ↔ ∀ k : Int, 1 ≤ k → k ≤ cnt → ∃ p ∈ cs, p.num = k := by
  obtain ⟨U, h1, h2, rfl⟩ := hc
  rw [all_used h1 h0 (fun x hx => by obtain ⟨p, hp, rfl⟩ := (h2 x).1 hx; exact hr p hp)]
  exact ⟨fun h k a b => (h2 k).1 (h k a b), fun h k a b => (h2 k).2 (h k a b)⟩
/-- what the first loop has seen -/
def OwnTo (g : Gr) (cs : List Pt) (cnt : Int) (i : Nat) : Prop := ∀ j (h : j < g.nodes.length) (h2 : j < cs.length), j < i → cs[j].node = g.nodes[j].id ∧ 1 ≤ cs[j].num ∧ cs[j].num ≤ cnt
theorem OwnTo.step {g : Gr} {cs : List Pt} {cnt : Int} {i : Nat} (h : OwnTo g cs cnt i) (h1 : ∀ (h : i < g.nodes.length) (h2 : i < cs.length), cs[i].node = g.nodes[i].id ∧ 1 ≤ cs[i].num ∧ cs[i].num ≤ cnt) : OwnTo g cs cnt (i + 1) := fun j a b c => by
  by_cases e : j = i
  · subst e; exact h1 a b
  · exact h j a b (by omega)
theorem Cst.free {w W W' : World} {bg bk bm base bc bu : Nat} {x0 x1 y0 y1 y2 : Value} {ks : List Int} {F : Int → Value} {L : Int → List Int} {f : Int → Int} {P : Int → Prop} {i : Nat} (h : Cst w W bg bk bm base bc bu x0 x1 y0 y1 y2 ks F L f P i) (o : Cord w bg bk bm bc bu F) {z : Nat} (hz : bu < z) (hg : W.grownBy W' (some z)) : Cst w W' bg bk bm base bc bu x0 x1 y0 y1 y2 ks F L f P i := by
  have h4 := o.o4
  obtain ⟨a1, a2, a3, a4, a5, a6, a7⟩ := h.other o (by omega) hg
  exact ⟨a1, a2, a3, a4, a5, a6, a7, h.col.below (hg.block bc h.col.lt (fun e => by injection e; omega)), h.use.block (hg.block bu h.use.lt (fun e => by injection e; omega))⟩
/-- the colours of what the range has passed -/
def Passed (l : List (Lit × DataW Value)) (L : Int → List Int) (f : Int → Int) (left : Lit → Bool) : Prop := ∀ id, Maps.has (DataW.map l) (.int .i64 id) = true → left (.int .i64 id) = false → ∀ u ∈ L id, f u ≠ f id
theorem Passed.step {l : List (Lit × DataW Value)} {L : Int → List Int} {f : Int → Int} {left : Lit → Bool} (h : Passed l L f left) {x : Int} (hx : ∀ u ∈ L x, f u ≠ f x) : Passed l L f (fun z => left z && !z.sameKey (.int .i64 x)) := fun id hh hl => by
  rw [Bool.and_eq_false_iff, Bool.not_eq_false'] at hl
  rcases hl with q | q
  · exact h id hh q
  · have := WideAt.sameKey_eq q
    injection this with _ this
    subst this
    exact hx
set_option maxHeartbeats 8000000 in
set_option maxRecDepth 100000 in
theorem colOk_any (w : World) (hE : Env w) (S S2 : Nat → Prop) (v vc : Value) (g : Gr) (cs : List Pt) (cnt : Int) (cl : List Int) (h : RGr w S v g) (hc : RCol w S2 vc cs cnt cl) (hcI : I64 cnt) : Calls Tryz.prog 43 #[v, vc] w (PropB (ColP g cs cnt cl) w) := by
  have h0 := h.within
  obtain ⟨v1, v2, rfl, h1, h2⟩ := h
  obtain ⟨a1, c1, rfl⟩ := h1.shape
  obtain ⟨a2, c2, rfl⟩ := h2.shape
  obtain ⟨vp, vq, rfl, hp, hq⟩ := hc
  have hp0 := hp.within (by decide) EPt.in
  obtain ⟨ap, cp, rfl⟩ := hp.shape
  obtain ⟨aq, cq, rfl⟩ := hq.shape
  have hpl := hp.len
  have hql := hq.len
  obtain ⟨n1, hn1⟩ : ∃ n, g.nodes.length = n := ⟨_, rfl⟩
  obtain ⟨n2, hn2⟩ : ∃ n, g.edges.length = n := ⟨_, rfl⟩
  obtain ⟨m, hm⟩ : ∃ n, cs.length = n := ⟨_, rfl⟩
  obtain ⟨k, hk⟩ : ∃ n, cl.length = n := ⟨_, rfl⟩
  have HN1 := Lib.hid hn1
  have HN2 := Lib.hid hn2
  have HM := Lib.hid hm
  have HK := Lib.hid hk
  rw [hn1, hn2] at h0
  rw [hm] at hp hpl hp0
  rw [hk] at hq hql
  rw [hn1, hn2, hm, hk]
  obtain ⟨hc1, hc2⟩ := hcI
  have hcI : I64 cnt := ⟨hc1, hc2⟩
  clear h1 h2 hn1 hn2 hm hk hp0
  have hb1 := (Below.refl _ w).alloc (Nat.le_refl _) (.cells #[.slice a1 n1 c1, .slice a2 n2 c2] 36)
  have hba := hb1.alloc hb1.size (.cells #[.slice ap m cp, .int .i64 cnt, .slice aq k cq] 40)
  have e1 : (w.alloc (.cells #[.slice a1 n1 c1, .slice a2 n2 c2] 36)).heap.size = w.heap.size + 1 := by simp
  have x0 : ((w.alloc (.cells #[.slice a1 n1 c1, .slice a2 n2 c2] 36)).alloc (.cells #[.slice ap m cp, .int .i64 cnt, .slice aq k cq] 40)).cell? ⟨w.heap.size, 0, none⟩ = some (.slice a1 n1 c1) := cell_alloc (by rw [World.cell?_alloc_mark]; rfl) _
  have x1 : ((w.alloc (.cells #[.slice a1 n1 c1, .slice a2 n2 c2] 36)).alloc (.cells #[.slice ap m cp, .int .i64 cnt, .slice aq k cq] 40)).cell? ⟨w.heap.size, 1, none⟩ = some (.slice a2 n2 c2) := cell_alloc (by rw [World.cell?_alloc_mark]; rfl) _
  have y0 : ((w.alloc (.cells #[.slice a1 n1 c1, .slice a2 n2 c2] 36)).alloc (.cells #[.slice ap m cp, .int .i64 cnt, .slice aq k cq] 40)).cell? ⟨w.heap.size + 1, 0, none⟩ = some (.slice ap m cp) := by rw [← e1, World.cell?_alloc_mark]; rfl
  have y1 : ((w.alloc (.cells #[.slice a1 n1 c1, .slice a2 n2 c2] 36)).alloc (.cells #[.slice ap m cp, .int .i64 cnt, .slice aq k cq] 40)).cell? ⟨w.heap.size + 1, 1, none⟩ = some (.int .i64 cnt) := by rw [← e1, World.cell?_alloc_mark]; rfl
  have y2 : ((w.alloc (.cells #[.slice a1 n1 c1, .slice a2 n2 c2] 36)).alloc (.cells #[.slice ap m cp, .int .i64 cnt, .slice aq k cq] 40)).cell? ⟨w.heap.size + 1, 2, none⟩ = some (.slice aq k cq) := by rw [← e1, World.cell?_alloc_mark]; rfl
  have r1 := h0.below hba
  have hE1 := hE.below hba
  have hq1 := hq.below EInt.kept hba
  clear hb1
  cases hg : gOk g with
  | false =>
    have hno : ¬ ColP g cs cnt cl := fun q => by have := q.ok; rw [hg] at this; cases this
    go_enter Tryz.func43, Tryz.ntmps43
    go_wp2_with (go_at_call 48; refine (graphOk_is _ hE1 _ _ _ _ hg r1).mono ?_; rintro e w1 ⟨rfl, hb1⟩)
    go_ret
    exact PropB.false hno (hba.trans (hb1.mono hba.size))
  | true =>
    have hw := gw_of hg
    have hl1 := hw.n
    rw [HN1.out] at hl1
    by_cases hmn : m = n1
    case neg =>
      have hno : ¬ ColP g cs cnt cl := fun q => hmn (by rw [← HM.out, ← HN1.out]; exact q.len)
      have f0 : ((m : Int) != (n1 : Int)) = true := by rw [bne_iff_ne]; omega
      have f0' : (m != n1) = true := by rw [bne_iff_ne]; exact hmn
      go_enter Tryz.func43, Tryz.ntmps43
      go_wp2_with (go_at_call 48; refine (graphOk_is _ hE1 _ _ _ _ hg r1).mono ?_; rintro e w1 ⟨rfl, hb1⟩; have z0 := cell_kept (fun hl => hb1.block _ hl) x0; have z1 := cell_kept (fun hl => hb1.block _ hl) y0)
      go_ret
      exact PropB.false hno (hba.trans (hb1.mono hba.size))
    subst hmn
    have f0 : ((m : Int) != (m : Int)) = false := by simp
    by_cases hnd : NodesP g cl
    case neg =>
      have hno : ¬ ColP g cs cnt cl := fun q => hnd q.nod
      have hcall := fun u r s => nodesOk_any u (fun b => S b ∧ b < w.heap.size) S2 (.agg #[.slice a1 m c1, .slice a2 n2 c2]) (.slice aq k cq) g cl r s
      have HD := Lib.hid hnd
      clear hnd
      go_enter Tryz.func43, Tryz.ntmps43
      go_wp2_with (first
        | (go_at_call 48; refine (graphOk_is _ hE1 _ _ _ _ hg r1).mono ?_; rintro e w1 ⟨rfl, hb1⟩; have z0 := cell_kept (fun hl => hb1.block _ hl) x0; have z1 := cell_kept (fun hl => hb1.block _ hl) y0; have z2 := cell_kept (fun hl => hb1.block _ hl) x1; have z3 := cell_kept (fun hl => hb1.block _ hl) y2; have r2 := r1.below hb1; have hq2 := hq1.below EInt.kept hb1)
        | (go_at_call 75; refine (hcall _ r2 hq2).mono ?_; intro e w2 hpb; obtain ⟨rfl, hb2⟩ := hpb.no HD.out))
      go_ret
      exact PropB.false hno ((hba.trans (hb1.mono hba.size)).trans (hb2.mono (Nat.le_trans hba.size hb1.size)))
    by_cases hfew : (k : Int) ≤ cnt
    case neg =>
      have hno : ¬ ColP g cs cnt cl := fun q => hfew (by rw [← HK.out]; exact q.few)
      have hcall := fun u r s => nodesOk_any u (fun b => S b ∧ b < w.heap.size) S2 (.agg #[.slice a1 m c1, .slice a2 n2 c2]) (.slice aq k cq) g cl r s
      have HD := Lib.hid hnd
      have f1 : decide (cnt < (k : Int)) = true := decide_eq_true (by omega)
      clear hnd
      go_enter Tryz.func43, Tryz.ntmps43
      go_wp2_with (first
        | (go_at_call 48; refine (graphOk_is _ hE1 _ _ _ _ hg r1).mono ?_; rintro e w1 ⟨rfl, hb1⟩; have z0 := cell_kept (fun hl => hb1.block _ hl) x0; have z1 := cell_kept (fun hl => hb1.block _ hl) y0; have z2 := cell_kept (fun hl => hb1.block _ hl) x1; have z3 := cell_kept (fun hl => hb1.block _ hl) y2; have z4 := cell_kept (fun hl => hb1.block _ hl) y1; have r2 := r1.below hb1; have hq2 := hq1.below EInt.kept hb1)
        | (go_at_call 75; refine (hcall _ r2 hq2).mono ?_; intro e w2 hpb; obtain ⟨rfl, hb2⟩ := hpb.yes HD.out; have z5 := cell_kept (fun hl => hb2.block _ hl) z3; have z6 := cell_kept (fun hl => hb2.block _ hl) z4))
      go_ret
      exact PropB.false hno ((hba.trans (hb1.mono hba.size)).trans (hb2.mono (Nat.le_trans hba.size hb1.size)))
    have f1 : decide (cnt < (k : Int)) = false := decide_eq_false (by omega)
    have hcall := fun u r s => nodesOk_any u (fun b => S b ∧ b < w.heap.size) S2 (.agg #[.slice a1 m c1, .slice a2 n2 c2]) (.slice aq k cq) g cl r s
    have HD := Lib.hid hnd
    have HF := Lib.hid hfew
    have h0c : 0 ≤ cnt := by omega
    have hmI : (m : Int) ≤ 200 := by omega
    clear hnd hfew
    go_enter Tryz.func43, Tryz.ntmps43
    go_upto_region 4 with (first
      | (go_at_call 48; refine (graphOk_is _ hE1 _ _ _ _ hg r1).mono ?_; rintro e w1 ⟨rfl, hb1⟩; have z0 := cell_kept (fun hl => hb1.block _ hl) x0; have z1 := cell_kept (fun hl => hb1.block _ hl) y0; have z2 := cell_kept (fun hl => hb1.block _ hl) x1; have z3 := cell_kept (fun hl => hb1.block _ hl) y2; have z4 := cell_kept (fun hl => hb1.block _ hl) y1; have r2 := r1.below hb1; have hq2 := hq1.below EInt.kept hb1)
      | (go_at_call 75; refine (hcall _ r2 hq2).mono ?_; intro e w2 hpb; obtain ⟨rfl, hb2⟩ := hpb.yes HD.out; have t0 := cell_kept (fun hl => hb2.block _ hl) z0; have t1 := cell_kept (fun hl => hb2.block _ hl) z2; have t2 := cell_kept (fun hl => hb2.block _ hl) z1; have t3 := cell_kept (fun hl => hb2.block _ hl) z4; have t4 := cell_kept (fun hl => hb2.block _ hl) z3; have r3 := r2.below hb2)
      | (go_at_call 76; refine (neighbours_any _ _ _ g r3 hw).mono ?_; rintro e w3 ⟨bm, base, F, L, rfl, hN, hL, hnodup, hbm, hb3⟩))
    have hb13 := hb1.trans ((hb2.trans (hb3.mono hb2.size)).mono hb1.size)
    have hbA := hba.trans (hb13.mono hba.size)
    have s0 := cell_kept (fun hl => hb3.block _ hl) t0
    have s1 := cell_kept (fun hl => hb3.block _ hl) t1
    have s2 := cell_kept (fun hl => hb3.block _ hl) t2
    have s3 := cell_kept (fun hl => hb3.block _ hl) t3
    have s4 := cell_kept (fun hl => hb3.block _ hl) t4
    have hord : w.heap.size + 1 < bm := by have a := hb2.size; have b := hb1.size; simp at b; omega
    clear hb1 hb2 hb3 hb13 r1 r2 r3 x0 x1 y0 y1 y2 z0 z1 z2 z3 z4 t0 t1 t2 t3 t4 hq1 hq2 hcall hE1 hba e1
    have hmm := @run_makeMap Tryz.prog
    have hbX := (Below.refl _ w3).alloc (Nat.le_refl _) (.map #[] 0)
    have e2 : (w3.alloc (.map #[] 0)).heap.size = w3.heap.size + 1 := by simp
    have hbY := hbX.alloc hbX.size (.map #[] 0)
    have hC0 : Cst w ((w3.alloc (.map #[] 0)).alloc (.map #[] 0)) w.heap.size (w.heap.size + 1) bm base w3.heap.size (w3.heap.size + 1) (.slice a1 m c1) (.slice a2 n2 c2) (.slice ap m cp) (.int .i64 cnt) (.slice aq k cq) (idsOf g.nodes) F L (colF (cs.take 0)) (fun y => ∃ p ∈ cs.take 0, p.num = y) 0 :=
      ⟨hbA.trans (hbY.mono hbA.size), cell_kept (fun hl => hbY.block _ hl) s0, cell_kept (fun hl => hbY.block _ hl) s1, cell_kept (fun hl => hbY.block _ hl) s2, cell_kept (fun hl => hbY.block _ hl) s3, cell_kept (fun hl => hbY.block _ hl) s4, hN.below hbY,
        (show MapK 2 _ _ _ (fun _ => 0) from (MapK.made 2 w3 (idsOf g.nodes)).below (((Below.refl _ (w3.alloc (.map #[] 0))).alloc (Nat.le_refl _) (.map #[] 0)).block _ (by simp))),
        by rw [← e2]; exact SeenM.made _ (by rintro x ⟨p, hp, _⟩; simp at hp)⟩
    have hO : Cord w w.heap.size (w.heap.size + 1) bm w3.heap.size (w3.heap.size + 1) F := ⟨Nat.le_refl _, by omega, hord, hN.map.lt, by omega, fun id q e => ((hN.rows.own id).lt q e).2⟩
    have hLi : ∀ a, ∀ u ∈ L a, u ∈ idsOf g.nodes := fun a u hu => by
      obtain ⟨e, he, _, q⟩ := (hL a u).1 hu
      obtain ⟨k1, k2⟩ := gOk_mem hw he
      rcases q with ⟨_, q⟩ | ⟨_, q⟩ <;> rw [← q] <;> assumption
    have hLl : ∀ a, (L a).length ≤ 200 := fun a => nb_len hw (fun e he => he) (hnodup a) (fun x hx => (hL a x).1 hx)
    have HLI := Lib.hid hLi
    have HLL := Lib.hid hLl
    have HL := Lib.hid hL
    have q0 := hC0.k0
    go_upto_region 7 with fail
    clear q0 hbA s0 s1 s2 s3 s4 hN hbX hbY hL hLi hLl hnodup hbm hord
    generalize (w3.alloc (.map #[] 0)).alloc (.map #[] 0) = W5 at hC0 ⊢
    clear e2
    obtain ⟨bc, hbc⟩ : ∃ b, w3.heap.size = b := ⟨_, rfl⟩
    obtain ⟨bg, hbg⟩ : ∃ b, w.heap.size = b := ⟨_, rfl⟩
    rw [hbc, hbg] at hC0 hO
    simp only [hbc, hbg]
    clear hbc hbg
    go_loopw [8, 9, 52] (fun _ _ iv wr => ∃ i : Nat, i ≤ m ∧ iv = .int .i64 i ∧ Cst w wr bg (bg + 1) bm base bc (bc + 1) (.slice a1 m c1) (.slice a2 n2 c2) (.slice ap m cp) (.int .i64 cnt) (.slice aq k cq) (idsOf g.nodes) F L (colF (cs.take i)) (fun y => ∃ p ∈ cs.take i, p.num = y) i ∧ OwnTo g cs cnt i) (fun _ _ iv _ => m - (intOf iv).toNat)
    case atStart => exact ⟨0, by omega, rfl, hC0, fun j a b c => by omega⟩
    case round =>
      clear hC0
      obtain ⟨i, hi, rfl, hC, hOw⟩ := hrel
      by_cases hlt : i < m
      · have g0 : decide ((i : Int) < m) = true := decide_eq_true (by omega)
        have g0' : decide (i < m) = true := decide_eq_true hlt
        have g0'' : (i : Int) < m := by omega
        have hig : i < g.nodes.length := by rw [HN1.out]; exact hlt
        have hic : i < cs.length := by rw [HM.out]; exact hlt
        have hrg := h0.below hC.below
        obtain ⟨v1', v2', hu, hNd, _⟩ := hrg
        injection hu with hu
        have hu := Array.mk.inj hu
        simp only [List.cons.injEq, and_true] at hu
        obtain ⟨rfl, rfl⟩ := hu
        obtain ⟨bN, oN, l1, d1, l2, d2, rfl, -, hcn, -⟩ := RNd.at hNd hig
        obtain ⟨bP, oP, rfl, -, hp0, hp1⟩ := RPt.at (hp.below EPt.kept hC.below) hic
        have hT := take_snoc' cs i hic
        have hxm : g.nodes[i].id ∈ idsOf g.nodes := List.mem_map.2 ⟨_, List.getElem_mem hig, rfl⟩
        have hstep := fun q => hOw.step (i := i) q
        have hbad : ¬ (cs[i].node = g.nodes[i].id ∧ 1 ≤ cs[i].num ∧ cs[i].num ≤ cnt) → ¬ ColP g cs cnt cl := fun q r => q (r.own i hig hic)
        obtain ⟨x, hx⟩ : ∃ x, g.nodes[i].id = x := ⟨_, rfl⟩
        obtain ⟨pn, hpn⟩ : ∃ x, cs[i].node = x := ⟨_, rfl⟩
        obtain ⟨pm, hpm⟩ : ∃ x, cs[i].num = x := ⟨_, rfl⟩
        have hTc : colF (cs.take (i + 1)) = upd (colF (cs.take i)) pn pm := by rw [hT, colF_snoc, hpn, hpm]
        have hTp : ∀ y, (y = pm ∨ ∃ p ∈ cs.take i, p.num = y) ↔ ∃ p ∈ cs.take (i + 1), p.num = y := fun y => by
          rw [hT]
          constructor
          · rintro (q | ⟨p, q, r⟩)
            · exact ⟨cs[i], List.mem_append_right _ (List.mem_singleton.2 rfl), by rw [hpm, q]⟩
            · exact ⟨p, List.mem_append_left _ q, r⟩
          · rintro ⟨p, q, r⟩
            rw [List.mem_append, List.mem_singleton] at q
            rcases q with q | q
            · exact .inr ⟨p, q, r⟩
            · left; rw [← r, q, hpm]
        have hstep2 : pn = x → 1 ≤ pm → pm ≤ cnt → OwnTo g cs cnt (i + 1) := fun q1 q2 q3 => hstep (fun _ _ => by rw [hpn, hpm, hx]; exact ⟨q1, q2, q3⟩)
        rw [hx, hpn, hpm] at hbad
        rw [hx] at hcn hxm
        rw [hpn] at hp0
        rw [hpm] at hp1
        have HTC := Lib.hid hTc
        have HTP := Lib.hid hTp
        have HST := Lib.hid hstep2
        have HBAD := Lib.hid hbad
        clear hT hstep hstep2 hbad hx hpn hpm hTc hTp hNd hOw
        have hbP := (Below.refl _ wr).alloc (Nat.le_refl _) (.cells #[.int .i64 pn, .int .i64 pm] 70)
        have hC2 := hC.step hbP
        have p0 : (wr.alloc (.cells #[.int .i64 pn, .int .i64 pm] 70)).cell? ⟨wr.heap.size, 0, none⟩ = some (.int .i64 pn) := by rw [World.cell?_alloc_mark]; rfl
        have p1 : (wr.alloc (.cells #[.int .i64 pn, .int .i64 pm] 70)).cell? ⟨wr.heap.size, 1, none⟩ = some (.int .i64 pm) := by rw [World.cell?_alloc_mark]; rfl
        have hcn2 := cell_kept (fun hl => hbP.block _ hl) hcn
        have hbpl : bc < wr.heap.size := hC.col.lt
        have hbul : bc + 1 < wr.heap.size := hC.use.lt
        go_upto_region 9 with fail
        clear hC hp0 hp1 hcn hbP
        obtain ⟨bp, hbp⟩ : ∃ b, wr.heap.size = b := ⟨_, rfl⟩
        rw [hbp] at p0 p1 hbpl hbul
        simp only [hbp]
        generalize wr.alloc (.cells #[.int .i64 pn, .int .i64 pm] 70) = W6 at hC2 p0 p1 hcn2 ⊢
        clear hbp
        by_cases e1 : pn = x
        case neg =>
          have m0 : (pn != x) = true := by rw [bne_iff_ne]; exact e1
          have HB : Hid (¬ ColP g cs cnt cl) := Lib.hid (HBAD.out (fun q => e1 q.1))
          refine region_ext (by kernel_rfl) (by kernel_rfl) ?_
          have t0 := Ext.cell p0
          have t1 := Ext.cell p1
          have t2 := Ext.cell hC2.g0
          have t3 := Ext.cell hcn2
          have t4 := Ext.cell hC2.k1
          repeat (go_big_quiet_step (fail))
          refine wpQuiet_nil ?_
          intro w7 hb7
          clear t0 t1 t2 t3 t4
          have hbZ := hC2.below.trans (hb7.mono hC2.below.size)
          go_wp2_with fail
          go_ret
          exact PropB.false HB.out hbZ
        subst e1
        have m0 : (pn != pn) = false := by simp
        by_cases e2 : pm < 1
        case pos =>
          have m1 : decide (pm < 1) = true := decide_eq_true e2
          have HB : Hid (¬ ColP g cs cnt cl) := Lib.hid (HBAD.out (fun q => by omega))
          refine region_ext (by kernel_rfl) (by kernel_rfl) ?_
          have t0 := Ext.cell p0
          have t1 := Ext.cell p1
          have t2 := Ext.cell hC2.g0
          have t3 := Ext.cell hcn2
          have t4 := Ext.cell hC2.k1
          repeat (go_big_quiet_step (fail))
          refine wpQuiet_nil ?_
          intro w7 hb7
          clear t0 t1 t2 t3 t4
          have hbZ := hC2.below.trans (hb7.mono hC2.below.size)
          go_wp2_with fail
          go_ret
          exact PropB.false HB.out hbZ
        have m1 : decide (pm < 1) = false := decide_eq_false e2
        by_cases e3 : cnt < pm
        case pos =>
          have m2 : decide (cnt < pm) = true := decide_eq_true e3
          have HB : Hid (¬ ColP g cs cnt cl) := Lib.hid (HBAD.out (fun q => by omega))
          refine region_ext (by kernel_rfl) (by kernel_rfl) ?_
          have t0 := Ext.cell p0
          have t1 := Ext.cell p1
          have t2 := Ext.cell hC2.g0
          have t3 := Ext.cell hcn2
          have t4 := Ext.cell hC2.k1
          repeat (go_big_quiet_step (fail))
          refine wpQuiet_nil ?_
          intro w7 hb7
          clear t0 t1 t2 t3 t4
          have hbZ := hC2.below.trans (hb7.mono hC2.below.size)
          go_wp2_with fail
          go_ret
          exact PropB.false HB.out hbZ
        have m2 : decide (cnt < pm) = false := decide_eq_false e3
        refine region_ext (by kernel_rfl) (by kernel_rfl) ?_
        have t0 := Ext.cell p0
        have t1 := Ext.cell p1
        have t2 := Ext.cell hC2.g0
        have t3 := Ext.cell hcn2
        have t4 := Ext.cell hC2.k1
        repeat (go_big_quiet_step (fail))
        refine wpQuiet_nil ?_
        intro w7 hb7
        clear t0 t1 t2 t3 t4
        have hC3 := hC2.step hb7
        have p2 := cell_kept (fun hl => hb7.block _ hl) p0
        have p3 := cell_kept (fun hl => hb7.block _ hl) p1
        have hkl : (idsOf g.nodes).length < 1048576 := by unfold idsOf; rw [List.length_map, HN1.out]; omega
        have hpnI := id_I64 (hw.id pn hxm)
        have hpmI : I64 pm := ⟨by omega, by omega⟩
        obtain ⟨W8, hr8, hC8, hg8⟩ := hC3.putc hO hkl hxm hpnI hpmI
        have p4 := cell_kept (fun hl => hg8.block _ hl (fun e => by injection e with e; omega)) p2
        have p5 := cell_kept (fun hl => hg8.block _ hl (fun e => by injection e with e; omega)) p3
        obtain ⟨c, hc0, hc3, hl9, W9, hr9, hC9⟩ := hC8.putu hO (by omega) hpmI
        have hC10 := hC9.congr (HTC.out).symm HTP.out
        have hOw2 := HST.out rfl (by omega) (by omega)
        have HC10 := Lib.hid hC10
        have HOW := Lib.hid hOw2
        clear hC2 hC3 hC8 hC9 hC10 hOw2 p0 p1 hcn2 hb7 hkl hg8 hxm
        go_wp2_with fail
        go_round
        case rel => exact ⟨i + 1, by omega, by go_num, HC10.out, HOW.out⟩
        case measure => simp [intOf]; omega
      · have hi3 : m = i := by omega
        subst hi3
        have g0 : decide ((m : Int) < m) = false := decide_eq_false (by omega)
        rw [List.take_of_length_le (by rw [HM.out]; omega)] at hC
        have hown : ∀ j (a : j < g.nodes.length) (b : j < cs.length), cs[j].node = g.nodes[j].id ∧ 1 ≤ cs[j].num ∧ cs[j].num ≤ cnt := fun j a b => hOw j a b (by rw [HM.out] at b; exact b)
        have hcolf : ∀ j (a : j < g.nodes.length) (b : j < cs.length), colF cs g.nodes[j].id = cs[j].num := fun j a b => by
          rw [← (hown j a b).1]
          refine colF_at _ cs rfl (fun a' b' ha hb e => ?_) j b
          have ha2 : a' < g.nodes.length := by rw [HN1.out, ← HM.out]; exact ha
          have hb2 : b' < g.nodes.length := by rw [HN1.out, ← HM.out]; exact hb
          rw [(hown a' ha2 ha).1, (hown b' hb2 hb).1] at e
          exact gOk_inj hw ha2 hb2 e
        have hnb : ∀ x u, u ∈ L x → (colF cs u = colF cs x → ¬ ColP g cs cnt cl) ∧ I64 x ∧ I64 u := fun x u hu => by
          obtain ⟨e, he, _, q⟩ := (HL.out x u).1 hu
          obtain ⟨k1, k2⟩ := gOk_mem hw he
          have m1 : x ∈ idsOf g.nodes := by rcases q with ⟨q, _⟩ | ⟨q, _⟩ <;> rw [← q] <;> assumption
          have m2 := HLI.out x u hu
          refine ⟨fun ec r => ?_, id_I64 (hw.id x m1), id_I64 (hw.id u m2)⟩
          obtain ⟨a, ha, _, rfl⟩ := gOk_pos hw m1
          obtain ⟨b, hb, _, rfl⟩ := gOk_pos hw m2
          have ha2 : a < cs.length := by rw [HM.out, ← HN1.out]; exact ha
          have hb2 : b < cs.length := by rw [HM.out, ← HN1.out]; exact hb
          rw [hcolf a ha ha2, hcolf b hb hb2] at ec
          exact r.apart a b ha hb ha2 hb2 ((HL.out _ _).1 hu) ec.symm
        have HOWN := Lib.hid hown
        have HCOL := Lib.hid hcolf
        have HNB := Lib.hid hnb
        clear hOw hown hcolf hnb
        obtain ⟨l, hown2, hkeys, hat⟩ := hC.nb.map
        have hCnb := hC.nb
        have hbul : bc + 1 < wr.heap.size := hC.use.lt
        go_upto_region 15 with (first
          | (at_range; refine wpList_range_own _ rfl _ 129 rfl 2 27 kmap2 Tryz.underlying129 _ bm (idsOf g.nodes).length _ rfl hown2 ?_; intro w0 hrg0 hg0 hs0)
          | fail)
        go_frame
        have hCr := hC.step (W' := w0) ⟨hg0.os, hg0.tape, hg0.output, hg0.size, fun q hq => hg0.block q hq (by simp)⟩
        obtain ⟨r, hr⟩ : ∃ r, wr.heap.size = r := ⟨_, rfl⟩
        rw [hr] at hrg0 hbul
        simp only [hr]
        have HAT := Lib.hid hat
        have HNONE := Lib.hid (fun id q => nb_none hCnb (l := l) hat (id := id) q)
        have hP0 : Passed l L (colF cs) (Maps.has (DataW.map l)) := fun id a b => by rw [a] at b; cases b
        clear hs0 hg0 hown2 hC hCnb hr hat hkeys
        go_loopw [10, 11, 13] (fun _ _ _ w2 => ∃ (left : Lit → Bool) (ct : Nat), w2.ranges Tryz.prog 2 slElem bm r (idsOf g.nodes).length (.map l) left ct ∧ Cst w w2 bg (bg + 1) bm base bc (bc + 1) (.slice a1 m c1) (.slice a2 n2 c2) (.slice ap m cp) (.int .i64 cnt) (.slice aq k cq) (idsOf g.nodes) F L (colF cs) (fun y => ∃ p ∈ cs, p.num = y) m ∧ Passed l L (colF cs) left) (fun _ _ _ w2 => w2.rangeLeft bm r)
        case atStart => exact ⟨_, _, hrg0, hCr, hP0⟩
        case round =>
          clear hrg0 hCr hP0
          obtain ⟨left, ct, hrg, hC, hP⟩ := hrel
          go_upto_region 16 with (at_next; refine wpList_next_ranges _ rfl _ rfl 2 kmap2 slElem (Value.int .i64) (fun c : Option Addr × Nat × Nat => .slice c.1 c.2.1 c.2.2) (fun key kl hk => by obtain ⟨x, rfl, _⟩ := Maps.keyOf_int_inv Tryz.underlying2 hk; exact ⟨x, rfl⟩) (fun v y hv => by obtain ⟨a, n, c, rfl, _⟩ := slElem_inv hv; exact ⟨(a, n, c), rfl⟩) bm r _ _ _ _ rfl hrg ?_ ?_)
          · intro _ hl0
            have hap : ∀ x u, u ∈ L x → colF cs u ≠ colF cs x := fun x u hu => by
              cases hh : Maps.has (DataW.map l) (.int .i64 x) with
              | false => rw [HNONE.out x hh] at hu; simp at hu
              | true => exact hP x hh (hl0 _) u hu
            have hapart : ∀ i j (hi : i < g.nodes.length) (hj : j < g.nodes.length) (hi2 : i < cs.length) (hj2 : j < cs.length), IsNb g.edges g.nodes[i].id g.nodes[j].id → cs[i].num ≠ cs[j].num := fun i j hi hj hi2 hj2 q e => by
              have := hap _ _ ((HL.out g.nodes[i].id g.nodes[j].id).2 q)
              rw [HCOL.out i hi hi2, HCOL.out j hj hj2] at this
              exact this e.symm
            have HAP := Lib.hid hapart
            obtain ⟨n, hcard, hnm, hlen⟩ := hC.use.len
            have hiff := card_upto hcard h0c (fun p hp => by
              obtain ⟨j, hj, rfl⟩ := List.mem_iff_getElem.1 hp
              exact (HOWN.out j (by rw [HN1.out, ← HM.out]; exact hj) hj).2)
            have HIFF := Lib.hid hiff
            have hqw := hq.below EInt.kept hC.below
            have hb := hC.below
            have hNw := hC.nb
            have q1 := hC.k1
            have q2 := hC.k2
            clear hap hapart hP hl0 hcard hiff hrg hC
            go_upto_region 24 with fail
            go_loopw [15, 17, 113] (fun _ _ iv w2 => ∃ i : Nat, i ≤ k ∧ iv = .int .i64 i ∧ wr = w2 ∧ ∀ a ∈ cl.take i, ∀ b ∈ cl, a ≠ b → IsNb g.edges a b) (fun _ _ iv _ => k - (intOf iv).toNat)
            case atStart => exact ⟨0, by omega, by first | rfl | go_num, rfl, by simp⟩
            case round =>
              obtain ⟨i, hi, rfl, hW, hI⟩ := hrel
              subst hW
              by_cases hlti : i < k
              · have k0 : decide ((i : Int) < k) = true := decide_eq_true (by omega)
                have k0' : decide (i < k) = true := decide_eq_true hlti
                have k0'' : (i : Int) < k := by omega
                have hic : i < cl.length := by rw [HK.out]; exact hlti
                obtain ⟨bq, oq, rfl, -, za⟩ := RInt.at hqw hic
                have hT := take_snoc' cl i hic
                have ham := List.getElem_mem hic
                obtain ⟨a, ha⟩ : ∃ a, cl[i] = a := ⟨_, rfl⟩
                rw [ha] at za hT ham
                have haI := id_I64 (hw.id a (HD.out.1 a ham))
                have hlook := (hNw.map.look haI).2
                obtain ⟨fa, fc, hFa⟩ := hNw.shape a
                have hcon := fun b => contains_row wr base (F a) (L a) (hNw.rows.own a) (Nat.le_trans (HLL.out a) (by decide)) b
                rw [hFa] at hlook hcon
                have HT := Lib.hid hT
                have HI := Lib.hid hI
                have HAM := Lib.hid ham
                clear ha hT hI ham hFa
                go_upto_region 26 with fail
                go_wp2_with fail
                go_loopw [17, 120] (fun _ jv w2 => ∃ j : Nat, j ≤ k ∧ jv = .int .i64 j ∧ wr = w2 ∧ ∀ b ∈ cl.take j, a ≠ b → IsNb g.edges a b) (fun _ jv _ => k - (intOf jv).toNat)
                case atStart => exact ⟨0, by omega, by first | rfl | go_num, rfl, by simp⟩
                case round =>
                  obtain ⟨j, hj, rfl, hW, hJ⟩ := hrel
                  subst hW
                  by_cases hltj : j < k
                  · have j0 : decide ((j : Int) < k) = true := decide_eq_true (by omega)
                    have j0' : decide (j < k) = true := decide_eq_true hltj
                    have j0'' : (j : Int) < k := by omega
                    have hjc : j < cl.length := by rw [HK.out]; exact hltj
                    obtain ⟨bq2, oq2, hEq, -, zb⟩ := RInt.at hqw hjc
                    injection hEq with hEq
                    injection hEq with q5 q6
                    subst q5
                    subst q6
                    have hT := take_snoc' cl j hjc
                    have hbm := List.getElem_mem hjc
                    obtain ⟨b, hbE⟩ : ∃ b, cl[j] = b := ⟨_, rfl⟩
                    rw [hbE] at zb hT hbm
                    have HTJ := Lib.hid hT
                    have HJ := Lib.hid hJ
                    have HBM := Lib.hid hbm
                    clear hbE hT hJ hbm
                    by_cases hab : a = b
                    · subst hab
                      have m0 : (a != a) = false := by simp
                      go_wp2_with fail
                      go_round
                      case rel => exact ⟨j + 1, by omega, by go_num, by first | rfl | trivial, fun y hy => by
                        rw [HTJ.out, List.mem_append, List.mem_singleton] at hy
                        rcases hy with hy | rfl
                        · exact HJ.out y hy
                        · exact fun q => absurd rfl q⟩
                      case measure => first | (simp [intOf]; done) | (simp [intOf]; omega)
                    · have m0 : (a != b) = true := by rw [bne_iff_ne]; exact hab
                      have hcb := hcon b
                      cases hct : (L a).contains b with
                      | false =>
                        rw [hct] at hcb
                        have HX : Hid (¬ ColP g cs cnt cl) := Lib.hid (fun q => by
                          have := (HL.out a b).2 (q.clq a HAM.out b HBM.out hab)
                          rw [List.contains_eq_mem, decide_eq_false_iff_not] at hct
                          exact hct this)
                        clear hct hcon
                        go_wp2_with (go_at_call 77; refine hcb.mono ?_; rintro e w' ⟨rfl, rfl⟩)
                        go_ret
                        exact PropB.false HX.out hb
                      | true =>
                        rw [hct] at hcb
                        have HX : Hid (IsNb g.edges a b) := Lib.hid (by
                          rw [List.contains_eq_mem, decide_eq_true_eq] at hct
                          exact (HL.out a b).1 hct)
                        clear hct hcon
                        go_wp2_with (go_at_call 77; refine hcb.mono ?_; rintro e w' ⟨rfl, rfl⟩)
                        go_round
                        case rel => exact ⟨j + 1, by omega, by go_num, by first | rfl | trivial, fun y hy => by
                          rw [HTJ.out, List.mem_append, List.mem_singleton] at hy
                          rcases hy with hy | rfl
                          · exact HJ.out y hy
                          · exact fun _ => HX.out⟩
                        case measure => first | (simp [intOf]; done) | (simp [intOf]; omega)
                  · have hj3 : k = j := by omega
                    subst hj3
                    have j0 : decide ((k : Int) < k) = false := decide_eq_false (by omega)
                    rw [List.take_of_length_le (by rw [HK.out]; omega)] at hJ
                    have HJ := Lib.hid hJ
                    clear hJ hltj
                    go_wp2_with fail
                    go_round
                    case rel => exact ⟨i + 1, by omega, by go_num, by first | rfl | trivial, fun y hy => by
                      rw [HT.out, List.mem_append, List.mem_singleton] at hy
                      rcases hy with hy | rfl
                      · exact HI.out y hy
                      · exact HJ.out⟩
                    case measure => first | (simp [intOf]; done) | (simp [intOf]; omega)
              · have hi3 : k = i := by omega
                subst hi3
                have k0 : decide ((k : Int) < k) = false := decide_eq_false (by omega)
                rw [List.take_of_length_le (by rw [HK.out]; omega)] at hI
                have HI := Lib.hid hI
                clear hI hlti
                by_cases hnc : (n : Int) = cnt
                · have m0 : decide ((n : Int) = cnt) = true := decide_eq_true hnc
                  have m0' : ((n : Int) == cnt) = true := by rw [beq_iff_eq]; exact hnc
                  have HX : Hid (ColP g cs cnt cl) := Lib.hid ⟨hg, by rw [HM.out, HN1.out], HD.out, by rw [HK.out]; exact HF.out, HOWN.out, HAP.out, HI.out, HIFF.out.1 hnc⟩
                  clear HIFF
                  go_wp2_with fail
                  go_ret
                  exact ⟨Bool.true, rfl, ⟨fun _ => HX.out, fun _ => rfl⟩, hb⟩
                · have m0 : decide ((n : Int) = cnt) = false := decide_eq_false hnc
                  have m0' : ((n : Int) == cnt) = false := by rw [beq_eq_false_iff_ne]; exact hnc
                  have HX : Hid (¬ ColP g cs cnt cl) := Lib.hid (fun q => hnc (HIFF.out.2 q.used))
                  clear HIFF
                  go_wp2_with fail
                  go_ret
                  exact PropB.false HX.out hb
          · intro x ca cn cc kl yd yp w1 cnt1 hkey hlx hRc hatD hrg1 hlt hg1 hs1 hen
            obtain ⟨x', ex, rfl, hwx⟩ := Maps.keyOf_int_inv Tryz.underlying2 hkey
            injection ex with _ ex
            subst ex
            have hy : yd = .held (.slice ca cn cc) := (congrArg Prod.fst (Option.some.inj hRc)).symm
            have hFx : F x = .slice ca cn cc := by
              have := hatD (.held nilS)
              rw [HAT.out x, hy] at this
              injection this
            have hC1 := hC.free hO hbul hg1
            obtain ⟨aa, c9, hsh⟩ := hC1.nb.shape x
            rw [hFx] at hsh
            injection hsh with e1 e2 e3
            subst e1
            subst e3
            obtain ⟨n, hn⟩ : ∃ n, (L x).length = n := ⟨_, rfl⟩
            rw [hn] at e2
            subst e2
            have HNL := Lib.hid hn
            have hrow := hC1.nb.rows.own x
            rw [hFx, hn] at hrow
            have hn200 := HLL.out x
            rw [hn] at hn200
            have hnI : (cn : Int) ≤ 200 := by omega
            have hxI := i64_wf hwx
            have hle := hrg1.left_eq
            have hle0 := hrg.left_eq
            clear hkey hRc hatD hy hFx hn hC
            go_upto_region 17 with fail
            go_wp2_with fail
            go_loopw [13, 98] (fun _ iv w2 => ∃ j : Nat, j ≤ cn ∧ iv = .int .i64 j ∧ w1 = w2 ∧ ∀ u ∈ (L x).take j, colF cs u ≠ colF cs x) (fun _ iv _ => cn - (intOf iv).toNat)
            case atStart => exact ⟨0, by omega, by first | rfl | go_num, rfl, by simp⟩
            case round =>
              obtain ⟨j, hj, rfl, hW, hI⟩ := hrel
              subst hW
              by_cases hltj : j < cn
              · have k0 : decide ((j : Int) < cn) = true := decide_eq_true (by omega)
                have k0' : decide (j < cn) = true := decide_eq_true hltj
                have k0'' : (j : Int) < cn := by omega
                have hjL : j < (L x).length := by rw [HNL.out]; exact hltj
                obtain ⟨gb, cb, hEq, _, _, hatb, _⟩ := own_at hrow (by omega)
                injection hEq with q1 _ q3
                subst q1
                subst q3
                have zb : w1.cell? ⟨gb, j, none⟩ = some (.int .i64 (L x)[j]) := by
                  have := hatb j (.int .i64 (L x)[j]) (by rw [List.getElem?_map, List.getElem?_eq_getElem hjL]; rfl)
                  rwa [Nat.zero_add] at this
                have hT := take_snoc' (L x) j hjL
                obtain ⟨hbad, _, huI⟩ := HNB.out x _ (List.getElem_mem hjL)
                obtain ⟨u, hu⟩ : ∃ u, (L x)[j] = u := ⟨_, rfl⟩
                rw [hu] at zb hT hbad huI
                have hlk1 := look57 hC1.col huI rfl
                have hlk2 := look57 hC1.col hxI rfl
                obtain ⟨fu, hfu⟩ : ∃ z, colF cs u = z := ⟨_, rfl⟩
                obtain ⟨fx, hfx⟩ : ∃ z, colF cs x = z := ⟨_, rfl⟩
                rw [hfu] at hlk1 hbad
                rw [hfx] at hlk2 hbad
                have HT := Lib.hid hT
                have HB := Lib.hid hbad
                have HFU := Lib.hid hfu
                have HFX := Lib.hid hfx
                have HI := Lib.hid hI
                clear hatb hu hT hbad hfu hfx hI
                by_cases heq : fu = fx
                · have m0 : decide (fu = fx) = true := decide_eq_true heq
                  have m0' : (fu == fx) = true := by rw [beq_iff_eq]; exact heq
                  have HX := Lib.hid (HB.out heq)
                  clear heq HB
                  go_wp2_with fail
                  go_ret
                  exact PropB.false HX.out hC1.below
                · have m0 : decide (fu = fx) = false := decide_eq_false heq
                  have m0' : (fu == fx) = false := by rw [beq_eq_false_iff_ne]; exact heq
                  go_wp2_with fail
                  go_round
                  case rel => exact ⟨j + 1, by omega, by go_num, by first | rfl | trivial, fun v hv => by
                    rw [HT.out, List.mem_append, List.mem_singleton] at hv
                    rcases hv with hv | rfl
                    · exact HI.out v hv
                    · rw [HFU.out, HFX.out]; exact heq⟩
                  case measure => first | (simp [intOf]; done) | (simp [intOf]; omega)
              · have hj3 : cn = j := by omega
                subst hj3
                have k0 : decide ((cn : Int) < cn) = false := decide_eq_false (by omega)
                rw [List.take_of_length_le (by rw [HNL.out]; omega)] at hI
                have hP2 := hP.step hI
                go_wp2_with fail
                go_roundw
                case rel => exact ⟨_, cnt1, hrg1, hC1, hP2⟩
                case measure => rw [hrg1.left_eq, hrg.left_eq]; exact hlt
end Go.Proofs.YtllhimeffkefiaaGreatDoor
