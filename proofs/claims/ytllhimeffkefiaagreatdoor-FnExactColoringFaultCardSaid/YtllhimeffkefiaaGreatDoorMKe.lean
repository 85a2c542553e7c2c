/- Texts of one proof, joined in their order: each bears its own word of what it holds and on what condition. -/
import Derived.Test.YtllhimeffkefiaaGreatDoorMKd
import Derived.Test.YtllhimeffkefiaaGreatDoorML
set_option linter.unusedVariables false
set_option linter.unusedSimpArgs false
/- impl's ColoringFault whole; the specification's l17Nodes; the table of links, read alone. Condition: the library's variables are as they were laid; the count is a number of 64 bits. -/
set_option linter.unusedVariables false
set_option linter.unusedSimpArgs false
namespace Go.Proofs.YtllhimeffkefiaaGreatDoor
open Go.RowKit Go.Sort

/-- 0: a right colouring; 1: none -/
def ColFR (g : Gr) (cs : List Pt) (cnt : Int) (cl : List Int) (w : World) (e : Ending) (w' : World) : Prop := ∃ b : Bool, e = .returned (.int .i64 (if b then 0 else 1)) ∧ ColR g cs cnt cl b ∧ Below w.heap.size w w'
theorem ColFR.bad {g : Gr} {cs : List Pt} {cnt : Int} {cl : List Int} {w w' : World} (hn : ¬ ColP g cs cnt cl) (h : Below w.heap.size w w') : ColFR g cs cnt cl w (.returned (.int .i64 1)) w' := ⟨Bool.false, rfl, ⟨(fun q => by cases q), fun q => absurd q hn⟩, h⟩
set_option maxHeartbeats 1000000 in
set_option maxRecDepth 100000 in
theorem colfault_any (w : World) (hE : Env w) (S S2 : Nat → Prop) (v vc : Value) (g : Gr) (cs : List Pt) (cnt : Int) (cl : List Int) (h : RGr w S v g) (hc : RCol w S2 vc cs cnt cl) (hcI : I64 cnt) : Calls Tryz.prog 12 #[v, vc] w (ColFR g cs cnt cl w) := by
  have h0 := h.within
  have hc0 := hc
  obtain ⟨v1, v2, rfl, h1, h2⟩ := h
  obtain ⟨a1, c1, rfl⟩ := h1.shape
  obtain ⟨a2, c2, rfl⟩ := h2.shape
  obtain ⟨vp, vq, rfl, hp, hq⟩ := hc
  obtain ⟨ap, cp, rfl⟩ := hp.shape
  obtain ⟨aq, cq, rfl⟩ := hq.shape
  have hb1 := (Below.refl _ w).alloc (Nat.le_refl _) (.cells #[.slice a1 g.nodes.length c1, .slice a2 g.edges.length c2] 36)
  have hba := hb1.alloc hb1.size (.cells #[.slice ap cs.length cp, .int .i64 cnt, .slice aq cl.length cq] 40)
  have hcall := colOk_any _ (hE.below hba) _ S2 _ _ g cs cnt cl (h0.below hba) (hc0.below hba) hcI
  clear h0 hc0 h1 h2 hp hq hb1
  go_enter Tryz.func12, Tryz.ntmps12
  go_upto_region 1 with fail
  by_cases hP : ColP g cs cnt cl
  · have HP := Lib.hid hP
    clear hP
    go_wp2_with (go_at_call 43; refine hcall.mono ?_; intro e w1 hpb; obtain ⟨rfl, hb2⟩ := hpb.yes HP.out)
    go_ret
    exact ⟨Bool.true, rfl, ⟨fun _ => HP.out, fun _ => rfl⟩, hba.trans (hb2.mono hba.size)⟩
  · have HP := Lib.hid hP
    clear hP
    go_wp2_with (go_at_call 43; refine hcall.mono ?_; intro e w1 hpb; obtain ⟨rfl, hb2⟩ := hpb.no HP.out)
    go_ret
    exact ColFR.bad HP.out (hba.trans (hb2.mono hba.size))
set_option maxHeartbeats 1000000 in
set_option maxRecDepth 100000 in
theorem srises_any (w : World) (S : Nat → Prop) (v : Value) (l : List Int) (h : RInt w S v l) : Calls Tryz.prog 71 #[v] w (PropB (rsg l) w) := by
  obtain ⟨a, c, rfl⟩ := h.shape
  have hl := h.len
  obtain ⟨n, hn⟩ : ∃ n, l.length = n := ⟨_, rfl⟩
  have HN := Lib.hid hn
  rw [hn] at hl h
  rw [hn]
  clear hn
  have hnI : (n : Int) ≤ 9223372036854775807 := by omega
  go_enter Tryz.func71, Tryz.ntmps71
  go_wp2
  go_loopw [3] (fun iv wr => ∃ k : Nat, 1 ≤ k ∧ k ≤ n + 1 ∧ iv = .int .i64 k ∧ Below w.heap.size w wr ∧ ∀ i (hi : i < l.length), 0 < i → i < k → l[i - 1]'(by omega) < l[i]) (fun iv _ => n + 1 - (intOf iv).toNat)
  case atStart => exact ⟨1, by omega, by omega, by first | rfl | go_num, Below.refl _ _, fun i hi h0 h1 => by omega⟩
  case round =>
    obtain ⟨k, hk1, hk, rfl, hb, hI⟩ := hrel
    by_cases hlt : k < n
    · have f0 : decide ((k : Int) < n) = true := decide_eq_true (by omega)
      have f0' : decide (k < n) = true := decide_eq_true hlt
      have f0'' : (k : Int) < n := by omega
      have hkl : k < l.length := by rw [HN.out]; exact hlt
      obtain ⟨j, rfl⟩ : ∃ j, k = j + 1 := ⟨k - 1, by omega⟩
      have hr := h.below EInt.kept hb
      obtain ⟨b, o, e1, -, d0⟩ := RInt.at hr (show j < l.length by omega)
      obtain ⟨b2, o2, e2, -, d1⟩ := RInt.at hr hkl
      rw [e1] at e2
      injection e2 with e2
      injection e2 with e2 e3
      subst e2
      subst e3
      subst e1
      have hstep : l[j] < l[j + 1] → ∀ i (hi : i < l.length), 0 < i → i < j + 1 + 1 → l[i - 1]'(by omega) < l[i] := fun q i hi h0 h1 => by
        by_cases e : i = j + 1
        · subst e; exact q
        · exact hI i hi h0 (by omega)
      have hstop : ¬ l[j] < l[j + 1] → ¬ rsg l := fun q r => q (r (j + 1) hkl (by omega))
      obtain ⟨x, hx⟩ : ∃ x, l[j] = x := ⟨_, rfl⟩
      obtain ⟨y, hy⟩ : ∃ y, l[j + 1] = y := ⟨_, rfl⟩
      rw [hx] at d0 hstep hstop
      rw [hy] at d1 hstep hstop
      have HS := Lib.hid hstep
      have HT := Lib.hid hstop
      have e4 : ((j + 1 : Nat) : Int) - 1 = j := by omega
      have e5 : (j : Int) < n := by omega
      have e6 : (j : Int) + 1 < n := by omega
      have e7 : (j : Int) + 1 - 1 = j := by omega
      have e8 : j < n := by omega
      clear hstep hstop hx hy hI hr
      by_cases hxy : x < y
      · have m0 : decide (y ≤ x) = false := decide_eq_false (by omega)
        go_upto_region 4 with fail
        refine region_ext (by kernel_rfl) (by kernel_rfl) ?_
        have t0 := Ext.cell d0
        have t1 := Ext.cell d1
        repeat (go_big_quiet_step (fail))
        refine wpQuiet_nil ?_
        intro w2 hb2
        clear t0 t1
        go_wp2_with fail
        go_round
        case rel => exact ⟨j + 1 + 1, by omega, by omega, by first | rfl | go_num, hb.trans (hb2.mono hb.size), HS.out hxy⟩
        case measure => first | (simp [intOf]; done) | (simp [intOf]; omega)
      · have m0 : decide (y ≤ x) = true := decide_eq_true (by omega)
        go_upto_region 4 with fail
        refine region_ext (by kernel_rfl) (by kernel_rfl) ?_
        have t0 := Ext.cell d0
        have t1 := Ext.cell d1
        repeat (go_big_quiet_step (fail))
        refine wpQuiet_nil ?_
        intro w2 hb2
        clear t0 t1
        go_wp2_with fail
        go_ret
        exact ⟨false, rfl, ⟨(fun q => by cases q), fun q => absurd q (HT.out hxy)⟩, hb.trans (hb2.mono hb.size)⟩
    · have f0 : decide ((k : Int) < n) = false := decide_eq_false (by omega)
      have f0' : decide (k < n) = false := decide_eq_false hlt
      have f0'' : ¬ (k : Int) < n := by omega
      go_wp2_with fail
      go_ret
      exact ⟨true, rfl, ⟨fun _ i hi h0 => hI i hi h0 (by have := HN.out; omega), fun _ => rfl⟩, hb⟩
set_option maxHeartbeats 1000000 in
set_option maxRecDepth 100000 in
theorem snodes_any (w : World) (S S2 : Nat → Prop) (v vl : Value) (g : Gr) (l : List Int) (h : RGr w S v g) (hl : RInt w S2 vl l) : Calls Tryz.prog 36 #[v, vl] w (PropB (NodesP g l) w) := by
  have h0 := h
  obtain ⟨v1, v2, rfl, h1, h2⟩ := h
  obtain ⟨a1, c1, rfl⟩ := h1.shape
  obtain ⟨a2, c2, rfl⟩ := h2.shape
  obtain ⟨al, cl, rfl⟩ := hl.shape
  have hll := hl.len
  obtain ⟨n, hn⟩ : ∃ n, l.length = n := ⟨_, rfl⟩
  have HN := Lib.hid hn
  rw [hn] at hl hll
  rw [hn]
  clear hn h0 h2
  have hnI : (n : Int) ≤ 9223372036854775807 := by omega
  have hnA : ∀ (id : Int) (u : World), RNd u S (.slice a1 g.nodes.length c1) g.nodes → Calls Tryz.prog 38 #[.agg #[.slice a1 g.nodes.length c1, .slice a2 g.edges.length c2], .int .i64 id] u (IntB (posN g.nodes id 0) u) := fun id u r => snodeAt_any u S a1 a2 g.edges.length c1 c2 g.nodes id r
  obtain ⟨n1, hn1⟩ : ∃ n, g.nodes.length = n := ⟨_, rfl⟩
  obtain ⟨n2, hn2⟩ : ∃ n, g.edges.length = n := ⟨_, rfl⟩
  rw [hn1] at h1
  rw [hn1, hn2]
  rw [hn1, hn2] at hnA
  clear hn1 hn2
  have hba := (Below.refl _ w).alloc (Nat.le_refl _) (.cells #[.slice a1 n1 c1, .slice a2 n2 c2] 36)
  have x0 : (w.alloc (.cells #[.slice a1 n1 c1, .slice a2 n2 c2] 36)).cell? ⟨w.heap.size, 0, none⟩ = some (.slice a1 n1 c1) := by rw [World.cell?_alloc_mark]; rfl
  have x1 : (w.alloc (.cells #[.slice a1 n1 c1, .slice a2 n2 c2] 36)).cell? ⟨w.heap.size, 1, none⟩ = some (.slice a2 n2 c2) := by rw [World.cell?_alloc_mark]; rfl
  go_enter Tryz.func36, Tryz.ntmps36
  go_wp2
  generalize w.alloc (.cells #[.slice a1 n1 c1, .slice a2 n2 c2] 36) = W0 at x0 x1 hba ⊢
  go_loopw [5] (fun iv wr => ∃ k : Nat, k ≤ n ∧ iv = .int .i64 k ∧ Below W0.heap.size W0 wr ∧ ∀ x ∈ l.take k, x ∈ idsOf g.nodes) (fun iv _ => n - (intOf iv).toNat)
  case atStart => exact ⟨0, by omega, rfl, Below.refl _ _, by simp⟩
  case round =>
    obtain ⟨k, hk, rfl, hb, hI⟩ := hrel
    have hbw := hba.trans (hb.mono hba.size)
    have y0 := cell_kept (fun hl => hb.block _ hl) x0
    have y1 := cell_kept (fun hl => hb.block _ hl) x1
    by_cases hlt : k < n
    · have f0 : decide ((k : Int) < n) = true := decide_eq_true (by omega)
      have f0' : decide (k < n) = true := decide_eq_true hlt
      have f0'' : (k : Int) < n := by omega
      have hkl : k < l.length := by rw [HN.out]; exact hlt
      obtain ⟨b, o, rfl, -, d0⟩ := RInt.at (hl.below EInt.kept hbw) hkl
      have hT := take_snoc' l k hkl
      have hm := List.getElem_mem hkl
      obtain ⟨x, hx⟩ : ∃ x, l[k] = x := ⟨_, rfl⟩
      rw [hx] at d0 hT hm
      have hp := posN_thr g.nodes x 0
      have hNd := h1.below ENd.kept hbw
      have hnX := hnA x
      have hin : thr g.nodes x = true ↔ x ∈ idsOf g.nodes := thr_iff
      generalize posN g.nodes x 0 = z at hp hnX
      have HT := Lib.hid hT
      have HM := Lib.hid hm
      have HIN := Lib.hid hin
      clear hx hT hm hin hnA
      cases ht : thr g.nodes x with
      | true =>
        rw [ht] at hp
        have HX := Lib.hid (HIN.out.1 ht)
        simp only [Bool.not_true] at hp
        clear ht
        go_upto_region 4 with fail
        refine region_ext (by kernel_rfl) (by kernel_rfl) ?_
        have t0 := Ext.cell y0
        have t1 := Ext.cell y1
        have t2 := Ext.cell d0
        repeat (go_big_quiet_step ((go_at_call 38; rename_i u; exact (hnX u.w (hNd.below ENd.kept u.below)).mono fun e w' h => ⟨h.1, ⟨w', u.below.trans (h.2.mono u.below.size)⟩, rfl⟩)))
        refine wpQuiet_nil ?_
        intro w2 hb2
        clear t0 t1 t2
        go_wp2_with fail
        go_round
        case rel => exact ⟨k + 1, by omega, by go_num, hb.trans (hb2.mono hb.size), fun y hy => by
          rw [HT.out, List.mem_append, List.mem_singleton] at hy
          rcases hy with hy | rfl
          · exact hI y hy
          · exact HX.out⟩
        case measure => first | (simp [intOf]; done) | (simp [intOf]; omega)
      | false =>
        rw [ht] at hp
        have HX : Hid (¬ NodesP g l) := Lib.hid (fun q => by have := HIN.out.2 (q.1 _ HM.out); rw [ht] at this; cases this)
        simp only [Bool.not_false] at hp
        clear ht
        go_upto_region 4 with fail
        refine region_ext (by kernel_rfl) (by kernel_rfl) ?_
        have t0 := Ext.cell y0
        have t1 := Ext.cell y1
        have t2 := Ext.cell d0
        repeat (go_big_quiet_step ((go_at_call 38; rename_i u; exact (hnX u.w (hNd.below ENd.kept u.below)).mono fun e w' h => ⟨h.1, ⟨w', u.below.trans (h.2.mono u.below.size)⟩, rfl⟩)))
        refine wpQuiet_nil ?_
        intro w2 hb2
        clear t0 t1 t2
        go_wp2_with fail
        go_ret
        exact PropB.false HX.out (hbw.trans (hb2.mono hbw.size))
    · have hk3 : n = k := by omega
      subst hk3
      have f0 : decide ((n : Int) < n) = false := decide_eq_false (by omega)
      rw [List.take_of_length_le (by rw [HN.out]; omega)] at hI
      have HI := Lib.hid hI
      have hri := srises_any wr S2 _ l (hl.below EInt.kept hbw)
      clear hI hlt
      go_wp2_with (go_at_call 71; refine hri.mono ?_; rintro e w2 ⟨b, rfl, hbi, hb2⟩)
      go_ret
      exact ⟨b, rfl, ⟨fun q => ⟨HI.out, hbi.1 q⟩, fun q => hbi.2 q.2⟩, hbw.trans (hb2.mono hbw.size)⟩
/-- a table of truths below block B -/
structure Tb (W : World) (B : Nat) (v : Value) (n : Nat) (gs : Nat → Nat) (M : Nat → Nat → Bool) : Prop where
  row : ∀ i, i < n → ∃ gO cO, v = .slice (some ⟨gO, 0, none⟩) n cO ∧ gO < B ∧ W.cell? ⟨gO, i, none⟩ = some (rowV gs n i)
  hi : ∀ i, i < n → gs i < B
  cell : ∀ i, i < n → ∀ j, j < n → W.cell? ⟨gs i, j, none⟩ = some (.bool (M i j))
theorem Tb.of {base : Nat} {W : World} {v : Value} {n : Nat} {gs : Nat → Nat} {M : Nat → Nat → Bool} (h : Mx base W v n n gs M) : Tb W W.heap.size v n gs M :=
  ⟨fun i hi => by
    obtain ⟨gO, cO, e, hr⟩ := h.rowcell hi
    exact ⟨gO, cO, e, lt_of_cell (hr i hi), hr i hi⟩, h.hi, h.cell⟩
theorem Tb.below {W W' : World} {B : Nat} {v : Value} {n : Nat} {gs : Nat → Nat} {M : Nat → Nat → Bool} (h : Tb W B v n gs M) (hb : Below W.heap.size W W') : Tb W' B v n gs M :=
  ⟨fun i hi => by
    obtain ⟨gO, cO, e, h1, h2⟩ := h.row i hi
    exact ⟨gO, cO, e, h1, cell_kept (fun hl => hb.block _ hl) h2⟩, h.hi, fun i hi j hj => cell_kept (fun hl => hb.block _ hl) (h.cell i hi j hj)⟩
theorem Tb.set {W : World} {B : Nat} {v : Value} {n : Nat} {gs : Nat → Nat} {M : Nat → Nat → Bool} (h : Tb W B v n gs M) {b : Nat} (hb : B ≤ b) (o : Nat) (x : Value) : Tb (W.setCell ⟨b, o, none⟩ x) B v n gs M :=
  ⟨fun i hi => by
    obtain ⟨gO, cO, e, h1, h2⟩ := h.row i hi
    exact ⟨gO, cO, e, h1, (World.cell?_setCell_other _ _ _ _ (fun q => by injection q with q; omega)).trans h2⟩, h.hi, fun i hi j hj => (World.cell?_setCell_other _ _ _ _ (fun q => by have := h.hi i hi; injection q with q; omega)).trans (h.cell i hi j hj)⟩
theorem lnks_nb {g : Gr} (h : Gw g) {i j : Nat} (hi : i < g.nodes.length) (hj : j < g.nodes.length) : lnks g.nodes g.edges i j = true ↔ IsNb g.edges g.nodes[i].id g.nodes[j].id := by
  rw [lnks_iff h hi hj]
  constructor
  · rintro ⟨hne, e, he, q⟩
    refine ⟨e, he, fun e2 => hne (gOk_inj h hi hj ?_), q⟩
    rcases q with ⟨q1, q2⟩ | ⟨q1, q2⟩ <;> rw [← q1, ← q2, e2]
  · rintro ⟨e, he, e2, q⟩
    refine ⟨fun e3 => ?_, e, he, q⟩
    subst e3
    rcases q with ⟨q1, q2⟩ | ⟨q1, q2⟩ <;> exact e2 (by rw [q1, q2])
theorem nb_sym {es : List Ed} {a b : Int} (h : IsNb es a b) : IsNb es b a := by
  obtain ⟨e, he, hne, q⟩ := h
  refine ⟨e, he, hne, ?_⟩
  rcases q with ⟨q1, q2⟩ | ⟨q1, q2⟩
  · exact .inr ⟨q2, q1⟩
  · exact .inl ⟨q2, q1⟩
end Go.Proofs.YtllhimeffkefiaaGreatDoor
