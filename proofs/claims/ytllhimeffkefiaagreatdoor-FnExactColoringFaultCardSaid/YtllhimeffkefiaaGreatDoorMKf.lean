/- Texts of one proof, joined in their order: each bears its own word of what it holds and on what condition. -/
import Derived.Test.YtllhimeffkefiaaGreatDoorMKe
set_option linter.unusedVariables false
set_option linter.unusedSimpArgs false
/- The specification's ColoringFault, walked. Condition: the count is a number of 64 bits. -/
set_option linter.unusedVariables false
set_option linter.unusedSimpArgs false
namespace Go.Proofs.YtllhimeffkefiaaGreatDoor
open Go.RowKit Go.Sort

/-- the boxes, the table of links, the row of what is used -/
structure Css (w W : World) (bg bk bl bu : Nat) (x0 x1 y0 y1 y2 lv : Value) (n c : Nat) (gs : Nat → Nat) (M : Nat → Nat → Bool) (U : Nat → Bool) : Prop where
  below : Below w.heap.size w W
  g0 : W.cell? ⟨bg, 0, none⟩ = some x0
  g1 : W.cell? ⟨bg, 1, none⟩ = some x1
  k0 : W.cell? ⟨bk, 0, none⟩ = some y0
  k1 : W.cell? ⟨bk, 1, none⟩ = some y1
  k2 : W.cell? ⟨bk, 2, none⟩ = some y2
  l0 : W.cell? ⟨bl, 0, none⟩ = some lv
  tab : Tb W bl lv n gs M
  use : ∀ y, y < c + 1 → W.cell? ⟨bu, y, none⟩ = some (.bool (U y))
  fro : ∀ o, W.frozen? ⟨bu, o, none⟩ = false
theorem Css.step {w W W' : World} {bg bk bl bu : Nat} {x0 x1 y0 y1 y2 lv : Value} {n c : Nat} {gs : Nat → Nat} {M : Nat → Nat → Bool} {U : Nat → Bool} (h : Css w W bg bk bl bu x0 x1 y0 y1 y2 lv n c gs M U) (hb : Below W.heap.size W W') : Css w W' bg bk bl bu x0 x1 y0 y1 y2 lv n c gs M U :=
  ⟨h.below.trans (hb.mono h.below.size), cell_kept (fun hl => hb.block _ hl) h.g0, cell_kept (fun hl => hb.block _ hl) h.g1, cell_kept (fun hl => hb.block _ hl) h.k0, cell_kept (fun hl => hb.block _ hl) h.k1, cell_kept (fun hl => hb.block _ hl) h.k2, cell_kept (fun hl => hb.block _ hl) h.l0, h.tab.below hb, fun y hy => cell_kept (fun hl => hb.block _ hl) (h.use y hy),
    fun o => (World.frozen?_of_block (a := ⟨bu, o, none⟩) (hb.block _ (lt_of_cell (h.use 0 (by omega))))).trans (h.fro o)⟩
theorem Css.put {w W : World} {bg bk bl bu : Nat} {x0 x1 y0 y1 y2 lv : Value} {n c : Nat} {gs : Nat → Nat} {M : Nat → Nat → Bool} {U : Nat → Bool} (h : Css w W bg bk bl bu x0 x1 y0 y1 y2 lv n c gs M U) (o1 : w.heap.size ≤ bg) (o2 : bg < bu) (o3 : bk < bu) (o4 : bl < bu) {y : Nat} (hy : y < c + 1) :
    Css w (W.setCell ⟨bu, y, none⟩ (.bool true)) bg bk bl bu x0 x1 y0 y1 y2 lv n c gs M (fun z => decide (z = y) || U z) := by
  have ho : ∀ b o, b < bu → (W.setCell ⟨bu, y, none⟩ (.bool true)).cell? ⟨b, o, none⟩ = W.cell? ⟨b, o, none⟩ := fun b o hb => World.cell?_setCell_other _ _ _ _ (fun q => by injection q with q; omega)
  refine ⟨⟨h.below.os, h.below.tape, h.below.output, by simp [World.setCell]; exact h.below.size, fun b hb => (Below.heap_setCell _ _ _ _ (by show b ≠ bu; omega)).trans (h.below.block b hb)⟩, (ho _ _ o2).trans h.g0, (ho _ _ o2).trans h.g1, (ho _ _ o3).trans h.k0, (ho _ _ o3).trans h.k1, (ho _ _ o3).trans h.k2, (ho _ _ o4).trans h.l0, h.tab.set (by omega) _ _, fun z hz => ?_, fun o => (World.frozen?_setCell _ _ _ _).trans (h.fro o)⟩
  by_cases e : z = y
  · subst e
    simp only [decide_true, Bool.true_or]
    exact World.cell?_setCell_same _ _ _ (h.use z hz)
  · simp only [decide_eq_false e, Bool.false_or]
    exact (World.cell?_setCell_other _ _ _ _ (fun q => e (by injection q with q1 q2; omega))).trans (h.use z hz)
theorem Css.congr {w W : World} {bg bk bl bu : Nat} {x0 x1 y0 y1 y2 lv : Value} {n c : Nat} {gs : Nat → Nat} {M : Nat → Nat → Bool} {U U' : Nat → Bool} (h : Css w W bg bk bl bu x0 x1 y0 y1 y2 lv n c gs M U) (he : ∀ y, U y = U' y) : Css w W bg bk bl bu x0 x1 y0 y1 y2 lv n c gs M U' := by
  have : U = U' := funext he
  subst this
  exact h
/-- no neighbour among the first i has the same colour -/
def ApTo (g : Gr) (cs : List Pt) (i : Nat) : Prop := ∀ a b (ha : a < g.nodes.length) (hb : b < g.nodes.length) (ha2 : a < cs.length) (hb2 : b < cs.length), b < a → a < i → IsNb g.edges g.nodes[a].id g.nodes[b].id → cs[b].num ≠ cs[a].num
theorem ApTo.all {g : Gr} {cs : List Pt} (h : ApTo g cs g.nodes.length) : ∀ i j (hi : i < g.nodes.length) (hj : j < g.nodes.length) (hi2 : i < cs.length) (hj2 : j < cs.length), IsNb g.edges g.nodes[i].id g.nodes[j].id → cs[i].num ≠ cs[j].num := fun i j hi hj hi2 hj2 q e => by
  rcases Nat.lt_trichotomy i j with z | z | z
  · exact h j i hj hi hj2 hi2 z hj (nb_sym q) e
  · subst z
    obtain ⟨e', _, hne, r⟩ := q
    rcases r with ⟨r1, r2⟩ | ⟨r1, r2⟩ <;> exact hne (by rw [r1, r2])
  · exact h i j hi hj hi2 hj2 z hi q e.symm
def usedB (cs : List Pt) (i : Nat) (y : Nat) : Bool := (cs.take i).any fun p => decide (p.num = (y : Int))
theorem usedB_snoc {cs : List Pt} {i : Nat} (hi : i < cs.length) {y : Nat} (hy : cs[i].num = (y : Int)) (z : Nat) : (decide (z = y) || usedB cs i z) = usedB cs (i + 1) z := by
  unfold usedB
  rw [take_snoc' _ i hi, List.any_append]
  simp only [List.any_cons, List.any_nil, Bool.or_false]
  rw [Bool.or_comm, hy]
  congr 1
  by_cases e : z = y
  · subst e; simp
  · rw [decide_eq_false e]
    symm
    exact decide_eq_false (by omega)
theorem usedB_all {cs : List Pt} {y : Nat} : usedB cs cs.length y = true ↔ ∃ p ∈ cs, p.num = (y : Int) := by
  unfold usedB
  rw [List.take_length, List.any_eq_true]
  simp only [decide_eq_true_eq]
theorem cnt_le' {g : Gr} {cs : List Pt} {cnt : Int} {cl : List Int} (q : ColP g cs cnt cl) : cnt ≤ cs.length := ccnt_le (by have := q.few; omega) q.used
set_option maxHeartbeats 8000000 in
set_option maxRecDepth 100000 in
theorem scolfault_any (w : World) (S S2 : Nat → Prop) (v vc : Value) (g : Gr) (cs : List Pt) (cnt : Int) (cl : List Int) (h : RGr w S v g) (hc : RCol w S2 vc cs cnt cl) (hcI : I64 cnt) : Calls Tryz.prog 9 #[v, vc] w (ColFR g cs cnt cl w) := by
  have h0 := h.within
  obtain ⟨v1, v2, rfl, h1, h2⟩ := h
  obtain ⟨a1, c1, rfl⟩ := h1.shape
  obtain ⟨a2, c2, rfl⟩ := h2.shape
  obtain ⟨vp, vq, rfl, hp, hq⟩ := hc
  obtain ⟨ap, cp, rfl⟩ := hp.shape
  obtain ⟨aq, cq, rfl⟩ := hq.shape
  have hpl := hp.len
  have hql := hq.len
  obtain ⟨n1, hn1⟩ : ∃ n, g.nodes.length = n := ⟨_, rfl⟩
  obtain ⟨n2, hn2⟩ : ∃ n, g.edges.length = n := ⟨_, rfl⟩
  obtain ⟨m, hm⟩ : ∃ n, cs.length = n := ⟨_, rfl⟩
  obtain ⟨k, hk⟩ : ∃ n, cl.length = n := ⟨_, rfl⟩
  have HN1 := Lib.hid hn1
  have HM := Lib.hid hm
  have HK := Lib.hid hk
  rw [hn1, hn2] at h0
  rw [hm] at hp hpl
  rw [hk] at hq hql
  rw [hn1, hn2, hm, hk]
  obtain ⟨hc1, hc2⟩ := hcI
  clear h1 h2 hn1 hn2 hm hk
  have hb1 := (Below.refl _ w).alloc (Nat.le_refl _) (.cells #[.slice a1 n1 c1, .slice a2 n2 c2] 36)
  have hba := hb1.alloc hb1.size (.cells #[.slice ap m cp, .int .i64 cnt, .slice aq k cq] 40)
  have e1 : (w.alloc (.cells #[.slice a1 n1 c1, .slice a2 n2 c2] 36)).heap.size = w.heap.size + 1 := by simp
  have x0 : ((w.alloc (.cells #[.slice a1 n1 c1, .slice a2 n2 c2] 36)).alloc (.cells #[.slice ap m cp, .int .i64 cnt, .slice aq k cq] 40)).cell? ⟨w.heap.size, 0, none⟩ = some (.slice a1 n1 c1) := cell_alloc (by rw [World.cell?_alloc_mark]; rfl) _
  have x1 : ((w.alloc (.cells #[.slice a1 n1 c1, .slice a2 n2 c2] 36)).alloc (.cells #[.slice ap m cp, .int .i64 cnt, .slice aq k cq] 40)).cell? ⟨w.heap.size, 1, none⟩ = some (.slice a2 n2 c2) := cell_alloc (by rw [World.cell?_alloc_mark]; rfl) _
  have y0 : ((w.alloc (.cells #[.slice a1 n1 c1, .slice a2 n2 c2] 36)).alloc (.cells #[.slice ap m cp, .int .i64 cnt, .slice aq k cq] 40)).cell? ⟨w.heap.size + 1, 0, none⟩ = some (.slice ap m cp) := by rw [← e1, World.cell?_alloc_mark]; rfl
  have y1 : ((w.alloc (.cells #[.slice a1 n1 c1, .slice a2 n2 c2] 36)).alloc (.cells #[.slice ap m cp, .int .i64 cnt, .slice aq k cq] 40)).cell? ⟨w.heap.size + 1, 1, none⟩ = some (.int .i64 cnt) := by rw [← e1, World.cell?_alloc_mark]; rfl
  have y2 : ((w.alloc (.cells #[.slice a1 n1 c1, .slice a2 n2 c2] 36)).alloc (.cells #[.slice ap m cp, .int .i64 cnt, .slice aq k cq] 40)).cell? ⟨w.heap.size + 1, 2, none⟩ = some (.slice aq k cq) := by rw [← e1, World.cell?_alloc_mark]; rfl
  have r1 := h0.below hba
  have hq1 := hq.below EInt.kept hba
  clear hb1 e1
  cases hg : gOk g with
  | false =>
    have hno : ¬ ColP g cs cnt cl := fun q => by have := q.ok; rw [hg] at this; cases this
    go_enter Tryz.func9, Tryz.ntmps9
    go_wp2_with (go_at_call 35; refine (fault_bad _ _ _ _ hg r1).mono ?_; rintro e w1 ⟨rfl, hb1⟩)
    go_ret
    exact ColFR.bad hno (hba.trans (hb1.mono hba.size))
  | true =>
    have hw := gw_of hg
    have hl1 := hw.n
    rw [HN1.out] at hl1
    by_cases hmn : m = n1
    case neg =>
      have hno : ¬ ColP g cs cnt cl := fun q => hmn (by rw [← HM.out, ← HN1.out]; exact q.len)
      have f0 : ((m : Int) != (n1 : Int)) = true := by rw [bne_iff_ne]; omega
      go_enter Tryz.func9, Tryz.ntmps9
      go_wp2_with (go_at_call 35; refine (fault_good _ _ _ _ hg r1).mono ?_; rintro e w1 ⟨rfl, hb1⟩; have z0 := cell_kept (fun hl => hb1.block _ hl) x0; have z1 := cell_kept (fun hl => hb1.block _ hl) y0)
      go_ret
      exact ColFR.bad hno (hba.trans (hb1.mono hba.size))
    subst hmn
    have f0 : ((m : Int) != (m : Int)) = false := by simp
    have hcall := fun u r s => snodes_any u (fun b => S b ∧ b < w.heap.size) S2 (.agg #[.slice a1 m c1, .slice a2 n2 c2]) (.slice aq k cq) g cl r s
    have hmI : (m : Int) ≤ 200 := by omega
    by_cases hnd : NodesP g cl
    case neg =>
      have hno : ¬ ColP g cs cnt cl := fun q => hnd q.nod
      have HD := Lib.hid hnd
      clear hnd
      go_enter Tryz.func9, Tryz.ntmps9
      go_wp2_with (first
        | (go_at_call 35; refine (fault_good _ _ _ _ hg r1).mono ?_; rintro e w1 ⟨rfl, hb1⟩; have z0 := cell_kept (fun hl => hb1.block _ hl) x0; have z1 := cell_kept (fun hl => hb1.block _ hl) y0; have z2 := cell_kept (fun hl => hb1.block _ hl) x1; have z3 := cell_kept (fun hl => hb1.block _ hl) y2; have r2 := r1.below hb1; have hq2 := hq1.below EInt.kept hb1)
        | (go_at_call 36; refine (hcall _ r2 hq2).mono ?_; intro e w2 hpb; obtain ⟨rfl, hb2⟩ := hpb.no HD.out))
      go_ret
      exact ColFR.bad hno ((hba.trans (hb1.mono hba.size)).trans (hb2.mono (Nat.le_trans hba.size hb1.size)))
    have HD := Lib.hid hnd
    clear hnd
    by_cases hok : (k : Int) ≤ cnt ∧ cnt ≤ (m : Int)
    case neg =>
      have hno : ¬ ColP g cs cnt cl := fun q => hok (by
        have a := q.few
        have b := cnt_le' q
        rw [HK.out] at a
        rw [HM.out] at b
        exact ⟨a, b⟩)
      by_cases q1 : cnt < (k : Int)
      · have m1 : decide (cnt < (k : Int)) = true := decide_eq_true q1
        clear hok
        go_enter Tryz.func9, Tryz.ntmps9
        go_wp2_with (first
          | (go_at_call 35; refine (fault_good _ _ _ _ hg r1).mono ?_; rintro e w1 ⟨rfl, hb1⟩; have z0 := cell_kept (fun hl => hb1.block _ hl) x0; have z1 := cell_kept (fun hl => hb1.block _ hl) y0; have z2 := cell_kept (fun hl => hb1.block _ hl) x1; have z3 := cell_kept (fun hl => hb1.block _ hl) y2; have z4 := cell_kept (fun hl => hb1.block _ hl) y1; have r2 := r1.below hb1; have hq2 := hq1.below EInt.kept hb1)
          | (go_at_call 36; refine (hcall _ r2 hq2).mono ?_; intro e w2 hpb; obtain ⟨rfl, hb2⟩ := hpb.yes HD.out; have t0 := cell_kept (fun hl => hb2.block _ hl) z0; have t3 := cell_kept (fun hl => hb2.block _ hl) z3; have t4 := cell_kept (fun hl => hb2.block _ hl) z4))
        go_ret
        exact ColFR.bad hno ((hba.trans (hb1.mono hba.size)).trans (hb2.mono (Nat.le_trans hba.size hb1.size)))
      · have m1 : decide (cnt < (k : Int)) = false := decide_eq_false q1
        have m2 : decide (cnt < 0) = false := decide_eq_false (by omega)
        have m3 : decide ((m : Int) < cnt) = true := decide_eq_true (by omega)
        clear hok
        go_enter Tryz.func9, Tryz.ntmps9
        go_wp2_with (first
          | (go_at_call 35; refine (fault_good _ _ _ _ hg r1).mono ?_; rintro e w1 ⟨rfl, hb1⟩; have z0 := cell_kept (fun hl => hb1.block _ hl) x0; have z1 := cell_kept (fun hl => hb1.block _ hl) y0; have z2 := cell_kept (fun hl => hb1.block _ hl) x1; have z3 := cell_kept (fun hl => hb1.block _ hl) y2; have z4 := cell_kept (fun hl => hb1.block _ hl) y1; have r2 := r1.below hb1; have hq2 := hq1.below EInt.kept hb1)
          | (go_at_call 36; refine (hcall _ r2 hq2).mono ?_; intro e w2 hpb; obtain ⟨rfl, hb2⟩ := hpb.yes HD.out; have t0 := cell_kept (fun hl => hb2.block _ hl) z0; have t3 := cell_kept (fun hl => hb2.block _ hl) z3; have t4 := cell_kept (fun hl => hb2.block _ hl) z4))
        go_ret
        exact ColFR.bad hno ((hba.trans (hb1.mono hba.size)).trans (hb2.mono (Nat.le_trans hba.size hb1.size)))
    obtain ⟨c, rfl⟩ : ∃ c : Nat, cnt = (c : Int) := ⟨cnt.toNat, by omega⟩
    have HOK := Lib.hid hok
    have m1 : decide ((c : Int) < (k : Int)) = false := decide_eq_false (by omega)
    have m2 : decide ((c : Int) < 0) = false := decide_eq_false (by omega)
    have m3 : decide ((m : Int) < (c : Int)) = false := decide_eq_false (by omega)
    have m4 : decide (m < c) = false := decide_eq_false (by omega)
    have m5 : decide (c < k) = false := decide_eq_false (by omega)
    have m6 : ¬ m < c := by omega
    have hcm : c ≤ 200 := by omega
    have hcmI : (c : Int) ≤ 200 := by omega
    obtain ⟨CU, hCU, hCUb, hmkU⟩ := make_one (T := 68) (E := 4) (z := .bool false) (by' := 1) Tryz.underlying68 (by kernel_rfl) rfl (by decide) (c + 1) (by omega)
    have hmkU2 : ∀ w, (Instr.makeSlice 68 (.int .i64 ((c : Int) + 1)) (.int .i64 ((c : Int) + 1))).run Tryz.prog w = .ok (.slice (some ⟨w.heap.size, 0, none⟩) (c + 1) (c + 1)) (w.alloc (.cells CU 4)) := fun w => by
      have := hmkU w
      rwa [show ((c + 1 : Nat) : Int) = (c : Int) + 1 by omega] at this
    clear hok hmkU
    go_enter Tryz.func9, Tryz.ntmps9
    go_upto_region 4 with (first
      | (go_at_call 35; refine (fault_good _ _ _ _ hg r1).mono ?_; rintro e w1 ⟨rfl, hb1⟩; have z0 := cell_kept (fun hl => hb1.block _ hl) x0; have z1 := cell_kept (fun hl => hb1.block _ hl) y0; have z2 := cell_kept (fun hl => hb1.block _ hl) x1; have z3 := cell_kept (fun hl => hb1.block _ hl) y2; have z4 := cell_kept (fun hl => hb1.block _ hl) y1; have r2 := r1.below hb1; have hq2 := hq1.below EInt.kept hb1)
      | (go_at_call 36; refine (hcall _ r2 hq2).mono ?_; intro e w2 hpb; obtain ⟨rfl, hb2⟩ := hpb.yes HD.out; have t0 := cell_kept (fun hl => hb2.block _ hl) z0; have t1 := cell_kept (fun hl => hb2.block _ hl) z2; have t2 := cell_kept (fun hl => hb2.block _ hl) z1; have t3 := cell_kept (fun hl => hb2.block _ hl) z3; have t4 := cell_kept (fun hl => hb2.block _ hl) z4; have r3 := r2.below hb2)
      | (go_at_call 37; refine (linked_any _ _ _ g r3 hg).mono ?_; rintro e w3 ⟨vL, gs, rfl, hmx, hb3⟩; obtain ⟨l1, l2, l3, rfl⟩ := hmx.shape))
    have hb13 := hb1.trans ((hb2.trans (hb3.mono hb2.size)).mono hb1.size)
    have hbA := hba.trans (hb13.mono hba.size)
    have s0 := cell_kept (fun hl => hb3.block _ hl) t0
    have s1 := cell_kept (fun hl => hb3.block _ hl) t1
    have s2 := cell_kept (fun hl => hb3.block _ hl) t2
    have s3 := cell_kept (fun hl => hb3.block _ hl) t4
    have s4 := cell_kept (fun hl => hb3.block _ hl) t3
    have hord : w.heap.size + 1 < w3.heap.size := by have a := hb3.size; have b := hb2.size; have d := hb1.size; simp at d; omega
    rw [HN1.out] at hmx
    have hT := Tb.of hmx
    have hbL := (Below.refl _ w3).alloc (Nat.le_refl _) (.cells #[.slice l1 l2 l3] 66)
    have hbU := hbL.alloc hbL.size (.cells CU 4)
    have e2 : (w3.alloc (.cells #[.slice l1 l2 l3] 66)).heap.size = w3.heap.size + 1 := by simp
    have hC0 : Css w ((w3.alloc (.cells #[.slice l1 l2 l3] 66)).alloc (.cells CU 4)) w.heap.size (w.heap.size + 1) w3.heap.size (w3.heap.size + 1) (.slice a1 m c1) (.slice a2 n2 c2) (.slice ap m cp) (.int .i64 c) (.slice aq k cq) (.slice l1 l2 l3) m c gs (lnks g.nodes g.edges) (usedB cs 0) :=
      ⟨hbA.trans (hbU.mono hbA.size), cell_kept (fun hl => hbU.block _ hl) s0, cell_kept (fun hl => hbU.block _ hl) s1, cell_kept (fun hl => hbU.block _ hl) s2, cell_kept (fun hl => hbU.block _ hl) s3, cell_kept (fun hl => hbU.block _ hl) s4,
        cell_alloc (by rw [World.cell?_alloc_mark]; rfl) _, hT.below hbU, fun y hy => by rw [← e2, World.cell?_alloc_mark]; exact hCUb y hy, fun o => by rw [← e2, World.frozen?_alloc_mark]; simp⟩
    have q1 := cell_kept (fun hl => hbL.block _ hl) s3
    have q0 := hC0.g0
    go_upto_region 6 with fail
    clear q0 q1 hbA s0 s1 s2 s3 s4 hbL hbU hb1 hb2 hb3 hb13 t0 t1 t2 t3 t4 z0 z1 z2 z3 z4 r1 r2 r3 x0 x1 y0 y1 y2 hT hmx hq1 hq2 hcall hba e2
    generalize (w3.alloc (.cells #[.slice l1 l2 l3] 66)).alloc (.cells CU 4) = W5 at hC0 ⊢
    obtain ⟨bl, hbl⟩ : ∃ b, w3.heap.size = b := ⟨_, rfl⟩
    obtain ⟨bg, hbg⟩ : ∃ b, w.heap.size = b := ⟨_, rfl⟩
    have HBG : Hid (w.heap.size = bg) := Lib.hid hbg
    rw [hbl, hbg] at hC0 hord
    simp only [hbl, hbg]
    clear hbl hbg
    go_loopw [7, 8, 9] (fun iv _ _ wr => ∃ i : Nat, i ≤ m ∧ iv = .int .i64 i ∧ Css w wr bg (bg + 1) bl (bl + 1) (.slice a1 m c1) (.slice a2 n2 c2) (.slice ap m cp) (.int .i64 c) (.slice aq k cq) (.slice l1 l2 l3) m c gs (lnks g.nodes g.edges) (usedB cs i) ∧ OwnTo g cs c i ∧ ApTo g cs i) (fun iv _ _ _ => m - (intOf iv).toNat)
    case atStart => exact ⟨0, by omega, by first | rfl | go_num, hC0, (fun j a b c => by omega), (fun a b _ _ _ _ _ h => by omega)⟩
    case round =>
      clear hC0
      obtain ⟨i, hi, rfl, hC, hOw, hAp⟩ := hrel
      have q0 := hC.g0
      by_cases hlt : i < m
      · have g0 : decide ((i : Int) < m) = true := decide_eq_true (by omega)
        have g0' : decide (i < m) = true := decide_eq_true hlt
        have g0'' : (i : Int) < m := by omega
        have hig : i < g.nodes.length := by rw [HN1.out]; exact hlt
        have hic : i < cs.length := by rw [HM.out]; exact hlt
        have hrg := h0.below hC.below
        obtain ⟨v1', v2', hu, hNd, _⟩ := hrg
        injection hu with hu
        have hu := Array.mk.inj hu
        simp only [List.cons.injEq, and_true] at hu
        obtain ⟨rfl, rfl⟩ := hu
        obtain ⟨bN, oN, e1', d1, e2', d2, rfl, -, hcn, -⟩ := RNd.at hNd hig
        obtain ⟨bP, oP, rfl, -, hp0, hp1⟩ := RPt.at (hp.below EPt.kept hC.below) hic
        have hstep := fun q => hOw.step (i := i) q
        have hbad : ¬ (cs[i].node = g.nodes[i].id ∧ 1 ≤ cs[i].num ∧ cs[i].num ≤ (c : Int)) → ¬ ColP g cs c cl := fun q r => q (r.own i hig hic)
        have hsn := fun (y : Nat) (q : cs[i].num = (y : Int)) => usedB_snoc hic q
        obtain ⟨x, hx⟩ : ∃ x, g.nodes[i].id = x := ⟨_, rfl⟩
        obtain ⟨pn, hpn⟩ : ∃ x, cs[i].node = x := ⟨_, rfl⟩
        obtain ⟨pm, hpm⟩ : ∃ x, cs[i].num = x := ⟨_, rfl⟩
        have hstep2 : pn = x → 1 ≤ pm → pm ≤ (c : Int) → OwnTo g cs c (i + 1) := fun q1 q2 q3 => hstep (fun _ _ => by rw [hpn, hpm, hx]; exact ⟨q1, q2, q3⟩)
        rw [hx, hpn, hpm] at hbad
        rw [hpm] at hsn
        rw [hx] at hcn
        rw [hpn] at hp0
        rw [hpm] at hp1
        have HPM := Lib.hid hpm
        have HST := Lib.hid hstep2
        have HBAD := Lib.hid hbad
        have HSN := Lib.hid hsn
        clear hstep hstep2 hbad hx hpn hpm hNd hOw hsn
        have hbP := (Below.refl _ wr).alloc (Nat.le_refl _) (.cells #[.int .i64 pn, .int .i64 pm] 70)
        have hC2 := hC.step hbP
        have p0 : (wr.alloc (.cells #[.int .i64 pn, .int .i64 pm] 70)).cell? ⟨wr.heap.size, 0, none⟩ = some (.int .i64 pn) := by rw [World.cell?_alloc_mark]; rfl
        have p1 : (wr.alloc (.cells #[.int .i64 pn, .int .i64 pm] 70)).cell? ⟨wr.heap.size, 1, none⟩ = some (.int .i64 pm) := by rw [World.cell?_alloc_mark]; rfl
        have hcn2 := cell_kept (fun hl => hbP.block _ hl) hcn
        have hbul : bl + 1 < wr.heap.size := lt_of_cell (hC.use 0 (by omega))
        have qk := hC.k0
        go_upto_region 9 with fail
        clear hC hp0 hp1 hcn hbP qk q0
        obtain ⟨bp, hbp⟩ : ∃ b, wr.heap.size = b := ⟨_, rfl⟩
        rw [hbp] at p0 p1 hbul
        simp only [hbp]
        generalize wr.alloc (.cells #[.int .i64 pn, .int .i64 pm] 70) = W6 at hC2 p0 p1 hcn2 ⊢
        clear hbp
        by_cases e1 : pn = x
        case neg =>
          have m0 : (pn != x) = true := by rw [bne_iff_ne]; exact e1
          have HB : Hid (¬ ColP g cs c cl) := Lib.hid (HBAD.out (fun q => e1 q.1))
          refine region_ext (by kernel_rfl) (by kernel_rfl) ?_
          have t0 := Ext.cell p0
          have t1 := Ext.cell p1
          have t2 := Ext.cell hC2.g0
          have t3 := Ext.cell hcn2
          have t4 := Ext.cell hC2.k1
          repeat (go_big_quiet_step (fail))
          refine wpQuiet_nil ?_
          intro w7 hb7
          clear t0 t1 t2 t3 t4
          have hbZ := hC2.below.trans (hb7.mono hC2.below.size)
          go_wp2_with fail
          go_ret
          exact ColFR.bad HB.out hbZ
        subst e1
        have n0 : (pn != pn) = false := by simp
        by_cases e2 : pm < 1
        case pos =>
          have n1 : decide (pm < 1) = true := decide_eq_true e2
          have HB : Hid (¬ ColP g cs c cl) := Lib.hid (HBAD.out (fun q => by omega))
          refine region_ext (by kernel_rfl) (by kernel_rfl) ?_
          have t0 := Ext.cell p0
          have t1 := Ext.cell p1
          have t2 := Ext.cell hC2.g0
          have t3 := Ext.cell hcn2
          have t4 := Ext.cell hC2.k1
          repeat (go_big_quiet_step (fail))
          refine wpQuiet_nil ?_
          intro w7 hb7
          clear t0 t1 t2 t3 t4
          have hbZ := hC2.below.trans (hb7.mono hC2.below.size)
          go_wp2_with fail
          go_ret
          exact ColFR.bad HB.out hbZ
        have n1 : decide (pm < 1) = false := decide_eq_false e2
        by_cases e3 : (c : Int) < pm
        case pos =>
          have n2 : decide ((c : Int) < pm) = true := decide_eq_true e3
          have HB : Hid (¬ ColP g cs c cl) := Lib.hid (HBAD.out (fun q => by omega))
          refine region_ext (by kernel_rfl) (by kernel_rfl) ?_
          have t0 := Ext.cell p0
          have t1 := Ext.cell p1
          have t2 := Ext.cell hC2.g0
          have t3 := Ext.cell hcn2
          have t4 := Ext.cell hC2.k1
          repeat (go_big_quiet_step (fail))
          refine wpQuiet_nil ?_
          intro w7 hb7
          clear t0 t1 t2 t3 t4
          have hbZ := hC2.below.trans (hb7.mono hC2.below.size)
          go_wp2_with fail
          go_ret
          exact ColFR.bad HB.out hbZ
        have n2 : decide ((c : Int) < pm) = false := decide_eq_false e3
        refine region_ext (by kernel_rfl) (by kernel_rfl) ?_
        have t0 := Ext.cell p0
        have t1 := Ext.cell p1
        have t2 := Ext.cell hC2.g0
        have t3 := Ext.cell hcn2
        have t4 := Ext.cell hC2.k1
        repeat (go_big_quiet_step (fail))
        refine wpQuiet_nil ?_
        intro w7 hb7
        clear t0 t1 t2 t3 t4
        have hC3 := hC2.step hb7
        have p2 := cell_kept (fun hl => hb7.block _ hl) p0
        have p3 := cell_kept (fun hl => hb7.block _ hl) p1
        obtain ⟨y, hy⟩ : ∃ y : Nat, pm = (y : Int) := ⟨pm.toNat, by omega⟩
        have hyc : y < c + 1 := by omega
        have z1 := hC3.use y hyc
        have z2 := hC3.fro y
        have hC4 := (hC3.put (by rw [HBG.out]; exact Nat.le_refl _) (by omega) (by omega) (by omega) hyc).congr (HSN.out y hy)
        have HOW := Lib.hid (HST.out rfl (by omega) (by omega))
        have hyI : (y : Int) < (c : Int) + 1 := by omega
        have p4 : (w7.setCell ⟨bl + 1, y, none⟩ (.bool true)).cell? ⟨bp, 1, none⟩ = some (.int .i64 pm) := (World.cell?_setCell_other _ _ _ _ (fun q => by injection q with q; omega)).trans p3
        have HY := Lib.hid hy
        rw [hy] at p3 p4
        clear hC2 hC3 p0 p1 hcn2 hb7 p2 hy
        go_upto_region 12 with fail
        clear z1 z2 p3
        generalize w7.setCell ⟨bl + 1, y, none⟩ (.bool true) = W8 at hC4 p4 ⊢
        go_wp2_with fail
        go_loopw [9] (fun jv w2 => ∃ j : Nat, j ≤ i ∧ jv = .int .i64 j ∧ Below W8.heap.size W8 w2 ∧ ∀ b (hb : b < g.nodes.length) (hb2 : b < cs.length), b < j → IsNb g.edges g.nodes[i].id g.nodes[b].id → cs[b].num ≠ cs[i].num) (fun jv _ => i - (intOf jv).toNat)
        case atStart => exact ⟨0, by omega, by first | rfl | go_num, Below.refl _ _, fun b _ _ h => by omega⟩
        case round =>
          obtain ⟨j, hj, rfl, hb, hJ⟩ := hrel
          have hC5 := hC4.step hb
          by_cases hltj : j < i
          · have k0 : decide ((j : Int) < i) = true := decide_eq_true (by omega)
            have k0' : decide (j < i) = true := decide_eq_true hltj
            have k0'' : (j : Int) < i := by omega
            have hjm : j < m := by omega
            have hjmI : (j : Int) < m := by omega
            have hjg : j < g.nodes.length := by rw [HN1.out]; exact hjm
            have hjc : j < cs.length := by rw [HM.out]; exact hjm
            have u0 := hC5.k0
            have u1 := hC5.l0
            obtain ⟨gO, cO, hEq, hgO, u2⟩ := hC5.tab.row i hlt
            have u3 := hC5.tab.cell i hlt j hjm
            unfold rowV at u2
            injection hEq with q1 q2 q3
            obtain ⟨bP', oP', hEq2, -, u4, u5⟩ := RPt.at (hp.below EPt.kept hC5.below) hjc
            injection hEq2 with hEq2
            injection hEq2 with q4 q5
            subst q4
            subst q5
            have u6 := cell_kept (fun hl => hb.block _ hl) p4
            have hnb := lnks_nb hw hig hjg
            rw [q1, q2, q3] at u1
            have hrest : ∀ b (hb : b < g.nodes.length) (hb2 : b < cs.length), b < j + 1 → b ≠ j → IsNb g.edges g.nodes[i].id g.nodes[b].id → cs[b].num ≠ cs[i].num := fun b a1 a2 a3 a4 => hJ b a1 a2 (by omega)
            have hone : (IsNb g.edges g.nodes[i].id g.nodes[j].id → cs[j].num ≠ cs[i].num) → ∀ b (hb : b < g.nodes.length) (hb2 : b < cs.length), b < j + 1 → IsNb g.edges g.nodes[i].id g.nodes[b].id → cs[b].num ≠ cs[i].num := fun q b a1 a2 a3 => by
              by_cases e : b = j
              · subst e; exact q
              · exact hrest b a1 a2 a3 e
            have hbad : IsNb g.edges g.nodes[i].id g.nodes[j].id → cs[j].num = cs[i].num → ¬ ColP g cs c cl := fun q1 q2 r => r.apart i j hig hjg hic hjc q1 q2.symm
            have hpm := HPM.out
            obtain ⟨pj, hpj⟩ : ∃ x, cs[j].num = x := ⟨_, rfl⟩
            rw [hpj] at u5 hone hbad
            rw [hpm, HY.out] at hone hbad
            have HONE := Lib.hid hone
            have HBD := Lib.hid hbad
            have HNB := Lib.hid hnb
            have hCb := hC5.below
            clear hone hbad hnb hrest hpj hpm hJ hC4 hC5 p4
            cases hM : lnks g.nodes g.edges i j with
            | false =>
              rw [hM] at u3
              have HX := Lib.hid (HONE.out (fun q => by have := HNB.out.2 q; rw [hM] at this; cases this))
              clear hM HONE HBD HNB
              go_upto_region 15 with fail
              refine region_ext (by kernel_rfl) (by kernel_rfl) ?_
              have t1 := Ext.cell u1
              have t2 := Ext.cell u2
              have t3 := Ext.cell u3
              repeat (go_big_quiet_step (fail))
              refine wpQuiet_nil ?_
              intro w9 hb9
              clear t1 t2 t3
              go_wp2_with fail
              go_round
              case rel => exact ⟨j + 1, by omega, by first | rfl | go_num, hb.trans (hb9.mono hb.size), by rw [HPM.out, HY.out]; exact HX.out⟩
              case measure => first | (simp [intOf]; done) | (simp [intOf]; omega)
            | true =>
              rw [hM] at u3
              have hI := HNB.out.1 hM
              clear hM
              by_cases heq : pj = (y : Int)
              · have n3 : (pj == (y : Int)) = true := by rw [beq_iff_eq]; exact heq
                have n3' : decide (pj = (y : Int)) = true := decide_eq_true heq
                have HX := Lib.hid (HBD.out hI heq)
                clear HONE HBD HNB hI
                go_upto_region 15 with fail
                refine region_ext (by kernel_rfl) (by kernel_rfl) ?_
                have t1 := Ext.cell u1
                have t2 := Ext.cell u2
                have t3 := Ext.cell u3
                have t4 := Ext.cell u0
                have t5 := Ext.cell u5
                have t6 := Ext.cell u6
                repeat (go_big_quiet_step (fail))
                refine wpQuiet_nil ?_
                intro w9 hb9
                clear t1 t2 t3 t4 t5 t6
                go_wp2_with fail
                go_ret
                exact ColFR.bad HX.out (hCb.trans (hb9.mono hCb.size))
              · have n3 : (pj == (y : Int)) = false := by rw [beq_eq_false_iff_ne]; exact heq
                have n3' : decide (pj = (y : Int)) = false := decide_eq_false heq
                have HX := Lib.hid (HONE.out (fun _ => heq))
                clear HONE HBD HNB hI
                go_upto_region 15 with fail
                refine region_ext (by kernel_rfl) (by kernel_rfl) ?_
                have t1 := Ext.cell u1
                have t2 := Ext.cell u2
                have t3 := Ext.cell u3
                have t4 := Ext.cell u0
                have t5 := Ext.cell u5
                have t6 := Ext.cell u6
                repeat (go_big_quiet_step (fail))
                refine wpQuiet_nil ?_
                intro w9 hb9
                clear t1 t2 t3 t4 t5 t6
                go_wp2_with fail
                go_round
                case rel => exact ⟨j + 1, by omega, by first | rfl | go_num, hb.trans (hb9.mono hb.size), by rw [HPM.out, HY.out]; exact HX.out⟩
                case measure => first | (simp [intOf]; done) | (simp [intOf]; omega)
          · have hj3 : i = j := by omega
            have k0 : decide ((j : Int) < i) = false := decide_eq_false (by omega)
            have k0' : decide (j < i) = false := decide_eq_false hltj
            have k0'' : ¬ (j : Int) < i := by omega
            have HAP : Hid (ApTo g cs (i + 1)) := Lib.hid (fun a b ha hb ha2 hb2 h1 h2 => by
              by_cases e : a = i
              · subst e; exact hJ b hb hb2 (by omega)
              · exact hAp a b ha hb ha2 hb2 h1 (by omega))
            clear hJ hj3
            go_wp2_with fail
            go_round
            case rel => exact ⟨i + 1, by omega, by go_num, hC5, HOW.out, HAP.out⟩
            case measure => first | (simp [intOf]; done) | (simp [intOf]; omega)
      · have hi3 : m = i := by omega
        subst hi3
        have g0 : decide ((m : Int) < m) = false := decide_eq_false (by omega)
        have hown : ∀ j (a : j < g.nodes.length) (b : j < cs.length), cs[j].node = g.nodes[j].id ∧ 1 ≤ cs[j].num ∧ cs[j].num ≤ (c : Int) := fun j a b => hOw j a b (by rw [HM.out] at b; exact b)
        have hap := ApTo.all (by rw [HN1.out]; exact hAp)
        have HOWN := Lib.hid hown
        have HAP := Lib.hid hap
        clear hOw hAp hown hap hlt
        have qk := hC.k1
        go_upto_region 18 with fail
        go_loopw [10] (fun kv w2 => ∃ t : Nat, 1 ≤ t ∧ t ≤ c + 1 ∧ kv = .int .i64 t ∧ wr = w2 ∧ ∀ z : Nat, 1 ≤ z → z < t → usedB cs m z = true) (fun kv _ => c + 1 - (intOf kv).toNat)
        case atStart => exact ⟨1, by omega, by omega, by first | rfl | go_num, rfl, fun z a b => by omega⟩
        case round =>
          obtain ⟨t, ht1, ht2, rfl, hW, hU⟩ := hrel
          subst hW
          by_cases htc : t ≤ c
          · have k0 : decide ((t : Int) ≤ (c : Int)) = true := decide_eq_true (by omega)
            have k0' : decide (t ≤ c) = true := decide_eq_true htc
            have k0'' : (t : Int) ≤ (c : Int) := by omega
            have u0 := hC.use t (by omega)
            have htI : (t : Int) < (c : Int) + 1 := by omega
            have htI2 : t < c + 1 := by omega
            cases hu : usedB cs m t with
            | false =>
              rw [hu] at u0
              have HX : Hid (¬ ColP g cs c cl) := Lib.hid (fun q => by
                have := usedB_all.2 (q.used (t : Int) (by omega) (by omega))
                rw [HM.out, hu] at this
                cases this)
              clear hu hU
              go_wp2_with fail
              go_ret
              exact ColFR.bad HX.out hC.below
            | true =>
              rw [hu] at u0
              have HU : Hid (∀ z : Nat, 1 ≤ z → z < t + 1 → usedB cs m z = true) := Lib.hid (fun z a b => by
                by_cases e : z = t
                · subst e; exact hu
                · exact hU z a (by omega))
              clear hu hU
              go_wp2_with fail
              go_round
              case rel => exact ⟨t + 1, by omega, by omega, by first | rfl | go_num, by first | rfl | trivial, HU.out⟩
              case measure => first | (simp [intOf]; done) | (simp [intOf]; omega)
          · have k0 : decide ((t : Int) ≤ (c : Int)) = false := decide_eq_false (by omega)
            have k0' : decide (t ≤ c) = false := decide_eq_false htc
            have k0'' : ¬ (t : Int) ≤ (c : Int) := by omega
            have HU : Hid (∀ z : Int, 1 ≤ z → z ≤ (c : Int) → ∃ p ∈ cs, p.num = z) := Lib.hid (fun z a b => by
              obtain ⟨y, rfl⟩ : ∃ y : Nat, z = (y : Int) := ⟨z.toNat, by omega⟩
              exact usedB_all.1 (by rw [HM.out]; exact hU y (by omega) (by omega)))
            have qk2 := hC.k2
            clear hU
            go_upto_region 23 with fail
            go_loopw [11, 12] (fun iv _ w2 => ∃ a : Nat, a ≤ k ∧ iv = .int .i64 a ∧ Below wr.heap.size wr w2 ∧ ∀ (i j : Nat) (hi : i < cl.length) (hj : j < cl.length), j < i → i < a → IsNb g.edges cl[i] cl[j]) (fun iv _ _ => k - (intOf iv).toNat)
            case atStart => exact ⟨0, by omega, by first | rfl | go_num, Below.refl _ _, fun i j _ _ _ h => by omega⟩
            case round =>
              obtain ⟨a, ha, rfl, hb, hJ⟩ := hrel
              have hC5 := hC.step hb
              have u2 := hC5.k2
              by_cases hak : a < k
              · have j0 : decide ((a : Int) < (k : Int)) = true := decide_eq_true (by omega)
                have j0' : decide (a < k) = true := decide_eq_true hak
                have j0'' : (a : Int) < (k : Int) := by omega
                have hac : a < cl.length := by rw [HK.out]; exact hak
                clear hC5
                go_upto_region 26 with fail
                clear u2
                go_loopw [12] (fun bv w2 => ∃ b : Nat, b ≤ a ∧ bv = .int .i64 b ∧ Below wr.heap.size wr w2 ∧ ∀ (j : Nat) (hj : j < cl.length), j < b → IsNb g.edges cl[a] cl[j]) (fun bv _ => a - (intOf bv).toNat)
                case atStart => exact ⟨0, by omega, by first | rfl | go_num, Below.refl _ _, fun j _ h => by omega⟩
                case round =>
                  obtain ⟨b, hba, rfl, hb2, hJ2⟩ := hrel
                  have hb3 := hb.trans (hb2.mono hb.size)
                  have hC5 := hC.step hb3
                  by_cases hlb : b < a
                  · have i0 : decide ((b : Int) < (a : Int)) = true := decide_eq_true (by omega)
                    have i0' : decide (b < a) = true := decide_eq_true hlb
                    have i0'' : (b : Int) < (a : Int) := by omega
                    have hbk : (b : Int) < (k : Int) := by omega
                    have hbc : b < cl.length := by rw [HK.out]; omega
                    have hia := HD.out.1 _ (List.getElem_mem hac)
                    have hib := HD.out.1 _ (List.getElem_mem hbc)
                    obtain ⟨p, hp', hp1, hp2⟩ := gOk_pos hw hia
                    obtain ⟨q, hq', hq1, hq2⟩ := gOk_pos hw hib
                    have hnb := lnks_nb hw hp' hq'
                    rw [hp2, hq2] at hnb
                    have hpm : p < m := by rw [← HN1.out]; exact hp'
                    have hqm : q < m := by rw [← HN1.out]; exact hq'
                    have hpI : (p : Int) < m := by omega
                    have hqI : (q : Int) < m := by omega
                    have u1 := hC5.l0
                    obtain ⟨gO, cO, hEq, hgO, u2⟩ := hC5.tab.row p hpm
                    have u3 := hC5.tab.cell p hpm q hqm
                    unfold rowV at u2
                    injection hEq with q1 q2 q3
                    rw [q1, q2, q3] at u1
                    have hqw := hq.below EInt.kept hC5.below
                    obtain ⟨bQ, oQ, hEq2, -, u4⟩ := RInt.at hqw hac
                    obtain ⟨bQ', oQ', hEq3, -, u5⟩ := RInt.at hqw hbc
                    rw [hEq2] at hEq3
                    injection hEq3 with hEq3
                    injection hEq3 with q4 q5
                    subst q4
                    subst q5
                    subst hEq2
                    have hrg := h0.below hC5.below
                    obtain ⟨v1', v2', hu, hNd, _⟩ := hrg
                    injection hu with hu
                    have hu := Array.mk.inj hu
                    simp only [List.cons.injEq, and_true] at hu
                    obtain ⟨rfl, rfl⟩ := hu
                    have hn1' : g.nodes.length = m := HN1.out
                    have hnA : ∀ (id : Int) (u : World), RNd u (fun b => S b ∧ b < w.heap.size) (.slice a1 m c1) g.nodes → Calls Tryz.prog 38 #[.agg #[.slice a1 m c1, .slice a2 n2 c2], .int .i64 id] u (IntB (posN g.nodes id 0) u) := fun id u r => by
                      have := snodeAt_any u _ a1 a2 n2 c1 c2 g.nodes id (by rw [hn1']; exact r)
                      rwa [hn1'] at this
                    have hall : IsNb g.edges cl[a] cl[b] → ∀ (j : Nat) (hj : j < cl.length), j < b + 1 → IsNb g.edges cl[a] cl[j] := fun z j hj hjb => by
                      by_cases e : j = b
                      · subst e; exact z
                      · exact hJ2 j hj (by omega)
                    have hbad : ¬ IsNb g.edges cl[a] cl[b] → ¬ ColP g cs c cl := fun z r => z (r.clq _ (List.getElem_mem hac) _ (List.getElem_mem hbc) (r.nod.2.ne hac hbc (by omega)))
                    have HALL := Lib.hid hall
                    have HBAD := Lib.hid hbad
                    have HNB := Lib.hid hnb
                    clear hall hbad hnb hJ2 hp2 hq2 hia hib hn1'
                    have HJ := Lib.hid hJ
                    clear hJ
                    obtain ⟨xa, hxa⟩ : ∃ x, cl[a] = x := ⟨_, rfl⟩
                    obtain ⟨xb, hxb⟩ : ∃ x, cl[b] = x := ⟨_, rfl⟩
                    rw [hxa] at u4 hp1
                    rw [hxb] at u5 hq1
                    have HXA := Lib.hid hxa
                    have HXB := Lib.hid hxb
                    clear hxa hxb
                    go_upto_region 28 with fail
                    cases hM : lnks g.nodes g.edges p q with
                    | false =>
                      rw [hM] at u3
                      have HX : Hid (¬ ColP g cs c cl) := Lib.hid (HBAD.out (fun z => by have := HNB.out.2 z; rw [hM] at this; cases this))
                      clear hM HALL HBAD HNB
                      refine region_ext (by kernel_rfl) (by kernel_rfl) ?_
                      have t0 := Ext.cell hC5.g0
                      have t1 := Ext.cell hC5.g1
                      have t2 := Ext.cell hC5.k2
                      have t3 := Ext.cell u1
                      have t4 := Ext.cell u2
                      have t5 := Ext.cell u3
                      have t6 := Ext.cell u4
                      have t7 := Ext.cell u5
                      repeat (go_big_quiet_step ((go_at_call 38; rename_i u; exact (hnA _ u.w (hNd.below ENd.kept u.below)).mono fun e w' h => ⟨h.1, ⟨w', u.below.trans (h.2.mono u.below.size)⟩, rfl⟩)))
                      refine wpQuiet_nil ?_
                      intro w9 hb9
                      clear t0 t1 t2 t3 t4 t5 t6 t7
                      go_wp2_with fail
                      go_ret
                      exact ColFR.bad HX.out (hC5.below.trans (hb9.mono hC5.below.size))
                    | true =>
                      rw [hM] at u3
                      have HX := Lib.hid (HALL.out (HNB.out.1 hM))
                      clear hM HALL HBAD HNB
                      refine region_ext (by kernel_rfl) (by kernel_rfl) ?_
                      have t0 := Ext.cell hC5.g0
                      have t1 := Ext.cell hC5.g1
                      have t2 := Ext.cell hC5.k2
                      have t3 := Ext.cell u1
                      have t4 := Ext.cell u2
                      have t5 := Ext.cell u3
                      have t6 := Ext.cell u4
                      have t7 := Ext.cell u5
                      repeat (go_big_quiet_step ((go_at_call 38; rename_i u; exact (hnA _ u.w (hNd.below ENd.kept u.below)).mono fun e w' h => ⟨h.1, ⟨w', u.below.trans (h.2.mono u.below.size)⟩, rfl⟩)))
                      refine wpQuiet_nil ?_
                      intro w9 hb9
                      clear t0 t1 t2 t3 t4 t5 t6 t7
                      go_wp2_with fail
                      go_round
                      case rel => exact ⟨b + 1, by omega, by first | rfl | go_num, hb2.trans (hb9.mono hb2.size), HX.out⟩
                      case measure => first | (simp [intOf]; done) | (simp [intOf]; omega)
                  · have hj3 : a = b := by omega
                    have i0 : decide ((b : Int) < (a : Int)) = false := decide_eq_false (by omega)
                    have i0' : decide (b < a) = false := decide_eq_false hlb
                    have i0'' : ¬ (b : Int) < (a : Int) := by omega
                    have HX : Hid (∀ (i j : Nat) (hi : i < cl.length) (hj : j < cl.length), j < i → i < a + 1 → IsNb g.edges cl[i] cl[j]) := Lib.hid (fun i j hi hj h1 h2 => by
                      by_cases e : i = a
                      · subst e; exact hJ2 j hj (by omega)
                      · exact hJ i j hi hj h1 (by omega))
                    clear hJ hJ2 hj3
                    go_wp2_with fail
                    go_round
                    case rel => exact ⟨a + 1, by omega, by first | rfl | go_num, hb3, HX.out⟩
                    case measure => first | (simp [intOf]; done) | (simp [intOf]; omega)
              · have hj3 : k = a := by omega
                have j0 : decide ((a : Int) < (k : Int)) = false := decide_eq_false (by omega)
                have j0' : decide (a < k) = false := decide_eq_false hak
                have j0'' : ¬ (a : Int) < (k : Int) := by omega
                have HX : Hid (ColP g cs c cl) := Lib.hid ⟨hg, by rw [HM.out, HN1.out], HD.out, by rw [HK.out]; exact HOK.out.1, HOWN.out, HAP.out, fun x hx y hy hxy => by
                  obtain ⟨i, hi, rfl⟩ := List.mem_iff_getElem.1 hx
                  obtain ⟨j, hj, rfl⟩ := List.mem_iff_getElem.1 hy
                  have hk' := HK.out
                  rcases Nat.lt_trichotomy i j with z | z | z
                  · exact nb_sym (hJ j i hj hi z (by omega))
                  · subst z; exact absurd rfl hxy
                  · exact hJ i j hi hj z (by omega), HU.out⟩
                clear hJ hj3 HU
                go_wp2_with fail
                go_ret
                exact ⟨Bool.true, rfl, ⟨fun _ => HX.out, fun _ => rfl⟩, hC5.below⟩
end Go.Proofs.YtllhimeffkefiaaGreatDoor
