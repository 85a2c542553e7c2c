/- Texts of one proof, joined in their order: each bears its own word of what it holds and on what condition. -/
import Derived.Test.YtllhimeffkefiaaGreatDoorMCg
import Derived.Test.YtllhimeffkefiaaGreatDoorMCd
import Derived.Test.YtllhimeffkefiaaGreatDoorMWh
import Derived.WalkSpells
set_option linter.unusedVariables false
set_option linter.unusedSimpArgs false
/- impl's CircleOf, whole. Condition: the library's variables are as they were laid. -/
set_option linter.unusedVariables false
set_option linter.unusedSimpArgs false
namespace Go.Proofs.YtllhimeffkefiaaGreatDoor
open Go.RowKit Go.Sort

/-- the map of how far it is back -/
def BkMap (es : List Ed) (s : Int) (W : World) (bo : Nat) : Prop := ∃ n D, W.ownsMap Tryz.prog 2 (plainElem (H := Unit) Tryz.prog 2) bo n D ∧ (∀ u, Maps.has D (.int .i64 u) = true ↔ ∃ k, Bk es s k u) ∧ ∀ u k, Bk es s k u → ∀ zd, D.atKey (.int .i64 u) zd = .lit (.int .i64 (k : Int))
theorem BkMap.lt {es : List Ed} {s : Int} {W : World} {bo : Nat} (h : BkMap es s W bo) : bo < W.heap.size := by
  obtain ⟨n, D, h1, _⟩ := h
  exact h1.lt
theorem BkMap.kept {es : List Ed} {s : Int} {W W' : World} {bo : Nat} (h : BkMap es s W bo) (hb : Below W.heap.size W W') : BkMap es s W' bo := by
  obtain ⟨n, D, h1, h2⟩ := h
  exact ⟨n, D, own_block h1 (hb.block bo h1.lt), h2⟩
set_option maxRecDepth 100000 in
theorem BkMap.look {es : List Ed} {s : Int} {W : World} {bo : Nat} (h : BkMap es s W bo) {u : Int} (hi : I64 u) :
    (∃ d : Nat, Bk es s d u ∧ (Instr.lookup 90 (.map (some bo)) (.int .i64 u) true).run Tryz.prog W = .ok (.tuple #[.int .i64 (d : Int), .bool true]) W) ∨
    ((∀ d, ¬ Bk es s d u) ∧ ∃ d : Int, (Instr.lookup 90 (.map (some bo)) (.int .i64 u) true).run Tryz.prog W = .ok (.tuple #[.int .i64 d, .bool false]) W) := by
  obtain ⟨n, D, h1, h2, h3⟩ := h
  obtain ⟨vv, ps, hlk, hv⟩ := h1.look_ok kmap2 Tryz.underlying90 (zero2 W) (zd := .lit (.int .i64 0)) (zp := []) (plainElem_int Tryz.underlying2 (show I64 0 from ⟨by decide, by decide⟩).wf) (key2 hi)
  obtain ⟨a, rfl, ha, _⟩ := plainElem_int_inv Tryz.underlying2 hv
  cases hb : Maps.has D (.int .i64 u) with
  | false =>
    rw [hb] at hlk
    refine .inr ⟨fun d q => ?_, a, hlk⟩
    rw [(h2 u).2 ⟨d, q⟩] at hb
    cases hb
  | true =>
    rw [hb] at hlk
    obtain ⟨k, hk⟩ := (h2 u).1 hb
    have e := h3 u k hk (.lit (.int .i64 0))
    simp only [Prod.mk.injEq] at ha
    rw [ha.1] at e
    have e : a = (k : Int) := by injection e with e; injection e
    subst e
    exact .inl ⟨k, hk, hlk⟩
theorem bkmap_of {g gh : Gr} {s : Int} (hgh : gh = ⟨frN g.nodes s, frE g.edges s⟩) {w w' : World} {e : Ending} (h : RchR gh true s w e w') : ∃ bo, e = .returned (.map (some bo)) ∧ BkMap g.edges s w' bo ∧ Below w.heap.size w w' := by
  subst hgh
  obtain ⟨bo, n, D, h1, h2, h3, h4, h5, h6, h7, h8⟩ := h
  rw [arcd_from_true] at h6 h7
  refine ⟨bo, h1, ⟨n, D, h3, fun u => ?_, fun u k q => h7 u k q⟩, h8⟩
  rw [h6 u]
  exact ⟨fun q => q.dst, fun ⟨k, q⟩ => Dst.rea q⟩
theorem from_shape {g gh : Gr} {s : Int} (hgh : gh = ⟨frN g.nodes s, frE g.edges s⟩) {S : Nat → Prop} {w w' : World} {e : Ending} (h : FromR g s S w e w') : ∃ a c b d m1 m2, e = .returned (.agg #[.slice a m1 c, .slice b m2 d]) ∧ RGr w' (fun b => S b ∨ w.heap.size ≤ b) (.agg #[.slice a m1 c, .slice b m2 d]) gh ∧ Below w.heap.size w w' := by
  subst hgh
  obtain ⟨v, rfl, h1, h2⟩ := h
  have h3 := h1
  obtain ⟨v1, v2, rfl, k1, k2⟩ := h3
  obtain ⟨a, c, rfl⟩ := k1.shape
  obtain ⟨b, d, rfl⟩ := k2.shape
  exact ⟨a, c, b, d, _, _, rfl, h1, h2⟩
/-- the row so far -/
structure Bst (g : Gr) (i : Nat) (B : Nat) (W : World) (bv : Value) (pl : Nat) (L : List Int) : Prop where
  row : W.ownsRow B 2 1 bv pl (L.map (Value.int .i64))
  len : L.length = pl
  none : pl = 0 → bv = .slice none 0 0
  le : pl ≤ 200
  best : Best g i L
theorem bst_skip {g : Gr} {i B pl : Nat} {W : World} {bv : Value} {L : List Int} (h : Bst g i B W bv pl L) (hi : i < g.nodes.length) {s : Int} (hs : g.nodes[i].id = s) (hn : ∀ L', Cyc g.edges s L' → 0 < pl ∧ pl ≤ L'.length) : Bst g (i + 1) B W bv pl L :=
  ⟨h.row, h.len, h.none, h.le, h.best.skip hi (fun L' q => by rw [hs] at q; rw [h.len]; exact hn L' q)⟩
theorem cyc_len {es : List Ed} {s : Int} {n : Nat} (hm : CMin es s n) {L : List Int} (hc : Cyc es s L) : L.length = n := by
  obtain ⟨n', x, h1, h2⟩ := hc
  have e := hm.same h1
  subst e
  obtain ⟨⟨u, d, _, _, rfl⟩, _⟩ := h1
  exact h2.len (by omega)
set_option maxHeartbeats 4000000 in
set_option maxRecDepth 100000 in
theorem circ_any (w : World) (hE : Env w) (S : Nat → Prop) (v : Value) (g : Gr) (h : RGr w S v g) : Calls Tryz.prog 16 #[v] w (CircR g w) := by
  have h0 := h.within
  obtain ⟨v1, v2, rfl, h1, h2⟩ := h
  obtain ⟨a1, c1, rfl⟩ := h1.shape
  obtain ⟨a2, c2, rfl⟩ := h2.shape
  obtain ⟨n1, hn1⟩ : ∃ n, g.nodes.length = n := ⟨_, rfl⟩
  obtain ⟨n2, hn2⟩ : ∃ n, g.edges.length = n := ⟨_, rfl⟩
  have HN1 := Lib.hid hn1
  have HN2 := Lib.hid hn2
  rw [hn1, hn2] at h0
  rw [hn1, hn2]
  clear h1 h2 hn1 hn2
  have hba := (Below.refl _ w).alloc (Nat.le_refl _) (.cells #[.slice a1 n1 c1, .slice a2 n2 c2] 36)
  have r1 := h0.below hba
  have hE1 := hE.below hba
  have x0 : (w.alloc (.cells #[.slice a1 n1 c1, .slice a2 n2 c2] 36)).cell? ⟨w.heap.size, 0, none⟩ = some (.slice a1 n1 c1) := by rw [World.cell?_alloc_mark]; rfl
  have x1 : (w.alloc (.cells #[.slice a1 n1 c1, .slice a2 n2 c2] 36)).cell? ⟨w.heap.size, 1, none⟩ = some (.slice a2 n2 c2) := by rw [World.cell?_alloc_mark]; rfl
  cases hg : gOk g with
  | false =>
    go_enter Tryz.func16, Tryz.ntmps16
    go_wp2_with (go_at_call 48; refine (graphOk_is _ hE1 _ _ _ _ hg r1).mono ?_; rintro e w1 ⟨rfl, hb1⟩)
    go_ret
    exact ⟨[], ⟨(fun _ => rfl), (fun h => by rw [hg] at h; cases h)⟩, IntsR.nil _ _ _ _ (hba.trans (hb1.mono hba.size))⟩
  | true =>
    have hw := gw_of hg
    have hl1 := hw.n
    rw [HN1.out] at hl1
    have h1I : (n1 : Int) ≤ 200 := by omega
    have hl2 := hw.e
    rw [HN2.out] at hl2
    go_enter Tryz.func16, Tryz.ntmps16
    go_upto_region 4 with (first
      | (go_at_call 48; refine (graphOk_is _ hE1 _ _ _ _ hg r1).mono ?_; rintro e w1 ⟨rfl, hb1⟩; have r2 := r1.below hb1; have y0 := cell_kept (fun hl => hb1.block _ hl) x0; have y1 := cell_kept (fun hl => hb1.block _ hl) x1)
      | (go_at_call 49; refine (sort_any _ _ _ g r2 hw).mono ?_; rintro e W1 ⟨vS, ok, rfl, hok, hb2⟩))
    have hb12 := hb1.trans (hb2.mono hb1.size)
    have r3 := r1.below hb12
    have z0 := cell_kept (fun hl => hb12.block _ hl) x0
    have z1 := cell_kept (fun hl => hb12.block _ hl) x1
    have hbA := hba.trans (hb12.mono hba.size)
    clear hba hb1 hb2 hb12 r1 r2 x0 x1 y0 y1 h0 hE1
    have HOK := Lib.hid hok
    clear hok
    cases ok with
    | true =>
      have hno := HOK.out rfl
      have HB : Hid (Best g g.nodes.length []) := Lib.hid (.inl ⟨rfl, fun j hj _ L' => hno _ L'⟩)
      clear hno
      go_wp2
      go_ret
      exact ⟨[], ⟨(fun h => absurd (hg.symm.trans h) (by decide)), (fun _ => HB.out)⟩, IntsR.nil _ _ _ _ hbA⟩
    | false =>
      clear HOK
      obtain ⟨bg, hbg⟩ : ∃ b, w.heap.size = b := ⟨_, rfl⟩
      rw [hbg] at z0 z1
      simp only [hbg]
      have HBG := Lib.hid hbg
      clear hbg
      go_upto_region 8 with fail
      have hB0 : Bst g 0 W1.heap.size W1 (.slice none 0 0) 0 [] := ⟨World.ownsRow_nil _ _ _ _, rfl, fun _ => rfl, by omega, Best.none g⟩
      go_loopw [5, 9, 10, 12, 13, 14, 15, 16, 18, 19, 20, 33] (fun bv _ _ _ _ _ _ _ _ _ _ iv wr => ∃ (i pl : Nat) (L : List Int), i ≤ n1 ∧ iv = .int .i64 i ∧ Below W1.heap.size W1 wr ∧ Bst g i W1.heap.size wr bv pl L) (fun _ _ _ _ _ _ _ _ _ _ _ iv _ => n1 - (intOf iv).toNat)
      case atStart => exact ⟨0, 0, [], by omega, rfl, Below.refl _ _, hB0⟩
      case round =>
        clear hB0
        obtain ⟨i, pl, L, hi, rfl, hbw, hBs⟩ := hrel
        by_cases hlt : i < n1
        · have f0 : decide ((i : Int) < n1) = true := decide_eq_true (by omega)
          have f0' : decide (i < n1) = true := decide_eq_true hlt
          have hlt2 : (i : Int) < n1 := by omega
          have hig : i < g.nodes.length := by rw [HN1.out]; exact hlt
          have q0 := cell_kept (fun hl => hbw.block _ hl) z0
          have q1 := cell_kept (fun hl => hbw.block _ hl) z1
          have rw0 := r3.below hbw
          have rw1 := rw0
          obtain ⟨v1', v2', hu, hNd, _⟩ := rw1
          injection hu with hu
          have hu := Array.mk.inj hu
          simp only [List.cons.injEq, and_true] at hu
          obtain ⟨rfl, rfl⟩ := hu
          obtain ⟨bN, oN, l1, d1, l2, d2, rfl, -, hc, hcl, hcf, -, -⟩ := RNd.at hNd hig
          obtain ⟨s, hs⟩ : ∃ s, g.nodes[i].id = s := ⟨_, rfl⟩
          obtain ⟨xl, hxl⟩ : ∃ xl, g.nodes[i].labels.length = xl := ⟨_, rfl⟩
          obtain ⟨xf, hxf⟩ : ∃ xf, g.nodes[i].fields.length = xf := ⟨_, rfl⟩
          have hsm : s ∈ idsOf g.nodes := by rw [← hs]; exact List.mem_map.2 ⟨_, List.getElem_mem hig, rfl⟩
          rw [hs] at hc
          rw [hxl] at hcl
          rw [hxf] at hcf
          have HS := Lib.hid hs
          clear hs hxl hxf hNd
          have hsI := id_I64 (hw.id s hsm)
          have hgw := gw_from hw s
          have hbN := (Below.refl _ wr).alloc (Nat.le_refl _) (.cells #[.int .i64 s, .slice l1 xl d1, .slice l2 xf d2] 74)
          have yN : (wr.alloc (.cells #[.int .i64 s, .slice l1 xl d1, .slice l2 xf d2] 74)).cell? ⟨wr.heap.size, 0, none⟩ = some (.int .i64 s) := by rw [World.cell?_alloc_mark]; rfl
          have rw2 := rw0.within.below hbN
          have yq0 := cell_kept (fun hl => hbN.block _ hl) q0
          have yq1 := cell_kept (fun hl => hbN.block _ hl) q1
          have hlW : ∀ b, (fun b => (((fun b => S b ∧ b < w.heap.size) b) ∧ b < wr.heap.size)) b → b < (wr.alloc (.cells #[.int .i64 s, .slice l1 xl d1, .slice l2 xf d2] 74)).heap.size := fun b hb => by simp; have := hb.2; omega
          go_upto_region 10 with fail
          generalize wr.alloc (.cells #[.int .i64 s, .slice l1 xl d1, .slice l2 xf d2] 74) = W2 at hbN yN rw2 yq0 yq1 hlW ⊢
          obtain ⟨bN, hbNe⟩ : ∃ b, wr.heap.size = b := ⟨_, rfl⟩
          rw [hbNe] at yN
          simp only [hbNe]
          have hfr := from_any W2 _ _ g rw2 hlW hw.n hw.e s
          obtain ⟨gh, hgh⟩ : ∃ gh : Gr, gh = ⟨frN g.nodes s, frE g.edges s⟩ := ⟨_, rfl⟩
          rw [← hgh] at hgw
          have hsf : s ∈ idsOf gh.nodes := by rw [hgh]; exact in_from hsm (Int.le_refl s)
          have hedg : gh.edges = frE g.edges s := by rw [hgh]
          have HGH := Lib.hid hgh
          have HEDG := Lib.hid hedg
          clear hgh hedg
          go_upto_region 11 with (go_at_call 50; refine hfr.mono ?_; rintro e w3 hfe; obtain ⟨pa, pc, pb, pd, m1, m2, rfl, r4, hb3⟩ := from_shape HGH.out hfe)
          have hb4 := (Below.refl _ w3).alloc (Nat.le_refl _) (.cells #[.slice pa m1 pc, .slice pb m2 pd] 36)
          have r5 := r4.below hb4
          have t0 : (w3.alloc (.cells #[.slice pa m1 pc, .slice pb m2 pd] 36)).cell? ⟨w3.heap.size, 0, none⟩ = some (.slice pa m1 pc) := by rw [World.cell?_alloc_mark]; rfl
          have t1 : (w3.alloc (.cells #[.slice pa m1 pc, .slice pb m2 pd] 36)).cell? ⟨w3.heap.size, 1, none⟩ = some (.slice pb m2 pd) := by rw [World.cell?_alloc_mark]; rfl
          have hb34 := hb3.trans (hb4.mono hb3.size)
          have tN := cell_kept (fun hl => hb34.block _ hl) yN
          have hbN4 := hbN.trans (hb34.mono hbN.size)
          have hbh := lt_of_cell t0
          clear hfr rw2 hlW hbN hb3 hb4 hb34 yN yq0 yq1 r4 rw0 hc hcl hcf
          obtain ⟨bh, hbhe⟩ : ∃ b, w3.heap.size = b := ⟨_, rfl⟩
          rw [hbhe] at t0 t1 hbh
          simp only [hbhe]
          clear hbhe
          generalize w3.alloc (.cells #[.slice pa m1 pc, .slice pb m2 pd] 36) = W4 at hbN4 r5 t0 t1 tN hbh ⊢
          go_upto_region 12 with (go_at_call 51; refine (reachable_any _ _ _ gh r5 hgw s hsf true).mono ?_; rintro e w5 hre; obtain ⟨bo, rfl, hmap, hb5⟩ := bkmap_of HGH.out hre)
          have r6 := r5.below hb5
          have t0' := cell_kept (fun hl => hb5.block _ hl) t0
          have t1' := cell_kept (fun hl => hb5.block _ hl) t1
          have tN' := cell_kept (fun hl => hb5.block _ hl) tN
          have hbN5 := hbN4.trans (hb5.mono hbN4.size)
          clear t0 t1 tN r5 hbN4 hb5
          go_upto_region 14 with (go_at_call 52; refine (around_any _ _ _ gh r6 hgw s false).mono ?_; rintro e Wq ⟨vv, rfl, hrow, hb6⟩; obtain ⟨la, lc, rfl⟩ := own_shapeG hrow)
          have hmapq := hmap.kept hb6
          have r7 := r6.below hb6
          have s0 := cell_kept (fun hl => hb6.block _ hl) t0'
          have s1 := cell_kept (fun hl => hb6.block _ hl) t1'
          have sN := cell_kept (fun hl => hb6.block _ hl) tN'
          have hbQ := hbN5.trans (hb6.mono hbN5.size)
          have hbh2 : bh < Wq.heap.size := lt_of_cell s0
          have hbwQ := hbw.trans (hbQ.mono hbw.size)
          have hBq : Bst g i W1.heap.size Wq u5 pl L := ⟨own_kept hBs.row (fun b _ hl => hbQ.block b hl), hBs.len, hBs.none, hBs.le, hBs.best⟩
          have hendl := ends_len gh.edges false s gh.edges.length
          rw [List.take_length] at hendl
          have hge := hgw.e
          obtain ⟨l, hl⟩ : ∃ l, ends gh.edges false s = l := ⟨_, rfl⟩
          have HL : Hid (ends (frE g.edges s) false s = l) := Lib.hid (by rw [← HEDG.out]; exact hl)
          rw [hl] at hrow hendl
          simp only [hl]
          obtain ⟨m, hm⟩ : ∃ m, l.length = m := ⟨_, rfl⟩
          have HM := Lib.hid hm
          rw [hm] at hrow hendl
          simp only [hm]
          have hm4 : m ≤ 400 := by omega
          have hmI : (m : Int) ≤ 400 := by omega
          clear hl hm hmap r6 t0' t1' tN' hb6 hbN5 hBs hendl q0 q1 hbw hbQ
          have hin : Hid (∀ y ∈ l, I64 y ∧ Rz g.edges s s y ∧ 0 < y) := Lib.hid (fun y hy => by
            rw [← HL.out] at hy
            have hz := mem_ends_from.1 hy
            have := hw.id y (arc_in hw hz.1).2
            exact ⟨id_I64 this, hz, by omega⟩)
          have hS0 := SizeI.start g.edges s
          go_loopw [10, 12, 13, 14, 50] (fun sv _ _ _ iv wr => ∃ (j : Nat) (x : Int), j ≤ m ∧ iv = .int .i64 j ∧ sv = .int .i64 x ∧ Wq = wr ∧ SizeI g.edges s (l.take j) x ∧ x ≤ 200) (fun _ _ _ _ iv _ => m - (intOf iv).toNat)
          case atStart => exact ⟨0, -1, by omega, rfl, by first | rfl | go_num, rfl, by rw [List.take_zero]; exact hS0, by omega⟩
          case round =>
            clear hS0
            obtain ⟨j, x, hj, rfl, rfl, hW, hI, hx⟩ := hrel
            subst hW
            by_cases hltj : j < m
            · have k0 : decide ((j : Int) < m) = true := decide_eq_true (by omega)
              have k0' : decide (j < m) = true := decide_eq_true hltj
              have k0'' : (j : Int) < m := by omega
              have hjl : j < l.length := by rw [HM.out]; exact hltj
              obtain ⟨gb, cb, hEq, hgb, hgbl, hat, _⟩ := own_at hrow (by omega)
              injection hEq with q1 _ q3
              subst q1
              subst q3
              have zb : Wq.cell? ⟨gb, j, none⟩ = some (.int .i64 l[j]) := by
                have := hat j (.int .i64 l[j]) (by rw [List.getElem?_map, List.getElem?_eq_getElem hjl]; rfl)
                rwa [Nat.zero_add] at this
              have hT := take_snoc' l j hjl
              obtain ⟨hyI, hyR, -⟩ := hin.out _ (List.getElem_mem hjl)
              obtain ⟨y, hy⟩ : ∃ y, l[j] = y := ⟨_, rfl⟩
              rw [hy] at zb hT hyI hyR
              have HT := Lib.hid hT
              have HI := Lib.hid hI
              have HR := Lib.hid hyR
              clear hat hy hT hI hyR hrow hBq
              rcases hmapq.look hyI with ⟨d, hd, hlk⟩ | ⟨hnd, d, hlk⟩
              · have hdb := hd.bound hw hsm
                unfold idsOf at hdb
                rw [List.length_map] at hdb
                have hdn := hw.n
                obtain ⟨dI, hdI⟩ : ∃ z : Int, (d : Int) = z := ⟨_, rfl⟩
                have hd0 : 0 ≤ dI := by omega
                have hd2 : dI + 1 ≤ 200 := by omega
                rw [hdI] at hlk
                have HD := Lib.hid hd
                have HDI := Lib.hid hdI
                clear hdb hdn hd hdI
                by_cases hx0 : x < 0
                · have p0 : decide (x < 0) = true := decide_eq_true hx0
                  go_wp2_with fail
                  go_round
                  case rel => exact ⟨j + 1, dI + 1, by omega, by go_num, by first | rfl | go_num, (by first | rfl | trivial), by rw [HT.out, ← HDI.out]; exact HI.out.take HR.out HD.out (.inl hx0), by omega⟩
                  case measure => simp [intOf]; omega
                · have p0 : decide (x < 0) = false := decide_eq_false hx0
                  by_cases hx1 : dI + 1 < x
                  · have p1 : decide (dI + 1 < x) = true := decide_eq_true hx1
                    go_wp2_with fail
                    go_round
                    case rel => exact ⟨j + 1, dI + 1, by omega, by go_num, by first | rfl | go_num, (by first | rfl | trivial), by rw [HT.out, ← HDI.out]; exact HI.out.take HR.out HD.out (.inr (by rw [HDI.out]; exact hx1)), by omega⟩
                    case measure => simp [intOf]; omega
                  · have p1 : decide (dI + 1 < x) = false := decide_eq_false hx1
                    go_wp2_with fail
                    go_round
                    case rel => exact ⟨j + 1, x, by omega, by go_num, by first | rfl | go_num, (by first | rfl | trivial), by rw [HT.out]; exact HI.out.keep HD.out (by omega) (by rw [HDI.out]; omega), hx⟩
                    case measure => simp [intOf]; omega
              · have HN := Lib.hid hnd
                clear hnd
                go_wp2_with fail
                go_round
                case rel => exact ⟨j + 1, x, by omega, by go_num, by first | rfl | go_num, (by first | rfl | trivial), by rw [HT.out]; exact HI.out.none_at HN.out, hx⟩
                case measure => simp [intOf]; omega
            · have hj3 : m = j := by omega
              subst hj3
              have k0 : decide ((m : Int) < m) = false := decide_eq_false (by omega)
              rw [List.take_of_length_le (by rw [HM.out]; omega), ← HL.out] at hI
              have hpl := hBq.le
              have hplI : (pl : Int) ≤ 200 := by omega
              have HBQ := Lib.hid hBq
              have HI := Lib.hid hI
              clear hBq hI hrow hltj
              obtain ⟨sk, hsk⟩ : ∃ sk, decide (x < 0 ∨ (0 < pl ∧ (pl : Int) ≤ x)) = sk := ⟨_, rfl⟩
              have HSK := Lib.hid hsk
              clear hsk
              go_upto_region 20 with fail
              go_cut [33, 85] from 33 to 135 (fun iv bv wx => iv = .int .i64 i ∧ bv = .bool sk ∧ Wq = wx)
              case first =>
                by_cases hx0 : x < 0
                · have p0 : decide (x < 0) = true := decide_eq_true hx0
                  have hsk : sk = true := by rw [← HSK.out]; exact decide_eq_true (.inl hx0)
                  subst hsk
                  go_wp2_with fail
                  go_meet
                  exact ⟨rfl, rfl, by first | rfl | trivial⟩
                · have p0 : decide (x < 0) = false := decide_eq_false hx0
                  by_cases hz : pl = 0
                  · have hsk : sk = false := by rw [← HSK.out]; exact decide_eq_false (by omega)
                    have hu := HBQ.out.none hz
                    subst hu
                    subst hsk
                    clear hz
                    have q78 : (binOp .neq 27 (.slice none 0 0) (.slice none 0 0)).run Tryz.prog Wq = .ok (.bool false) Wq := run_neq_slice_nil_any Wq 27 2 none 0 0 0 0 Tryz.underlying27
                    go_wp2_with fail
                    go_meet
                    exact ⟨rfl, rfl, rfl⟩
                  · obtain ⟨gp, cp, rfl, hgp, hgpl, -, -⟩ := own_at HBQ.out.row (by omega)
                    have q78 : (binOp .neq 27 (.slice (some ⟨gp, 0, none⟩) pl cp) (.slice none 0 0)).run Tryz.prog Wq = .ok (.bool true) Wq := run_neq_slice_nil_any Wq 27 2 _ pl cp 0 0 Tryz.underlying27
                    by_cases hle : (pl : Int) ≤ x
                    · have p1 : decide ((pl : Int) ≤ x) = true := decide_eq_true hle
                      have hsk : sk = true := by rw [← HSK.out]; exact decide_eq_true (.inr ⟨by omega, hle⟩)
                      subst hsk
                      clear hz
                      go_wp2_with fail
                      go_meet
                      exact ⟨rfl, rfl, rfl⟩
                    · have p1 : decide ((pl : Int) ≤ x) = false := decide_eq_false hle
                      have hsk : sk = false := by rw [← HSK.out]; exact decide_eq_false (by omega)
                      subst hsk
                      clear hz
                      go_wp2_with fail
                      go_meet
                      exact ⟨rfl, rfl, rfl⟩
              case rest =>
                obtain ⟨rfl, rfl, hWx⟩ := hcut
                subst hWx
                cases sk with
                | true =>
                  have hor := of_decide_eq_true HSK.out
                  have hB2 : Bst g (i + 1) W1.heap.size Wq u5 pl L := by
                    rcases hor with hx0 | ⟨hz, hle⟩
                    · have hx1 : x = -1 := by have := HI.out.val; omega
                      exact bst_skip HBQ.out hig HS.out (fun L' q => absurd q ((hx1 ▸ HI.out).none L'))
                    · obtain ⟨n0, hn0⟩ : ∃ n0 : Nat, x = (n0 : Int) := ⟨x.toNat, by omega⟩
                      have hcm : CMin g.edges s n0 := (hn0 ▸ HI.out).cmin
                      exact bst_skip HBQ.out hig HS.out (fun L' q => by rw [cyc_len hcm q]; omega)
                  have HB2 := Lib.hid hB2
                  clear hB2 hor
                  go_wp2_with fail
                  go_round
                  case rel => exact ⟨i + 1, pl, L, by omega, by go_num, hbwQ, HB2.out⟩
                  case measure => simp [intOf]; omega
                | false =>
                  have hor := of_decide_eq_false HSK.out
                  obtain ⟨n0, hn0⟩ : ∃ n0 : Nat, x = ((n0 + 1 : Nat) : Int) := ⟨(x - 1).toNat, by have := HI.out.val; omega⟩
                  have hcm : CMin g.edges s (n0 + 1) := (hn0 ▸ HI.out).cmin
                  have hcl := hcm.le hw hsm
                  unfold idsOf at hcl
                  rw [List.length_map, HN1.out] at hcl
                  have HCM := Lib.hid hcm
                  have hsk2 : pl = 0 ∨ n0 + 1 < pl := by omega
                  have hx2 : x = (n0 : Int) + 1 := by omega
                  have HOR := Lib.hid hsk2
                  subst hx2
                  clear hcm hn0 HI hor hsk2
                  go_upto_region 23 with fail
                  have hown0 : (Wq.alloc (.cells #[.int .i64 s] 2)).ownsRow Wq.heap.size 2 1 (.slice (some ⟨Wq.heap.size, 0, none⟩) 1 1) 1 [.int .i64 s] := ⟨rfl, .inr ⟨Wq.heap.size, 1, #[.int .i64 s], rfl, Nat.le_refl _, heap_alloc_new _ _, by simp, by unfold maxLen; simp, rfl, rfl⟩⟩
                  have hbE := (Below.refl _ Wq).alloc (Nat.le_refl _) (.cells #[.int .i64 s] 2)
                  generalize Wq.alloc (.cells #[.int .i64 s] 2) = W8 at hown0 hbE ⊢
                  have hC0 : Chn g.edges s (n0 + 1) n0 [s] s := Chn.start
                  have hn200 : (n0 : Int) ≤ 200 := by omega
                  obtain ⟨i0, hi0, hz0, hz1, hz2⟩ := info_parts (show (Tryz.prog.info? 2).map (fun i => (i.zero, i.size, i.bytes)) = some (some (.int .i64 0), 1, 8) by kernel_rfl)
                  go_loopw [5, 15, 16, 18, 19, 20] (fun bv lv _ _ _ _ wr => ∃ (left q : Nat) (L2 : List Int) (y : Int), left ≤ n0 ∧ lv = .int .i64 left ∧ Below Wq.heap.size Wq wr ∧ wr.ownsRow Wq.heap.size 2 1 bv (q + 1) (L2.map (Value.int .i64)) ∧ q + 1 + left = n0 + 1 ∧ Chn g.edges s (n0 + 1) left L2 y) (fun _ lv _ _ _ _ _ => (intOf lv).toNat)
                  case atStart => exact ⟨n0, 0, [s], s, Nat.le_refl _, by first | rfl | go_num, hbE, hown0, by omega, hC0⟩
                  case round =>
                    clear hown0 hbE hC0
                    obtain ⟨left, q, L2, y, hle, rfl, hb8, hrow8, hql, hC⟩ := hrel
                    have hlen2 := hC.len (by omega)
                    by_cases hl0 : 0 < left
                    · have p0 : decide ((0 : Int) < left) = true := decide_eq_true (by omega)
                      have p0' : (0 : Int) < left := by omega
                      obtain ⟨k, hk⟩ : ∃ k, left = k + 1 := ⟨left - 1, by omega⟩
                      have HK := Lib.hid hk
                      clear hk
                      have u0 := cell_kept (fun hl => hb8.block _ hl) s0
                      have u1 := cell_kept (fun hl => hb8.block _ hl) s1
                      have ru := r7.below hb8
                      have hmapu := hmapq.kept hb8
                      obtain ⟨gb, cb, rfl, hgb, hgbl, hat, hqc, hcm, hfz⟩ := own_at hrow8 (by omega)
                      have zl : wr.cell? ⟨gb, q, none⟩ = some (.int .i64 y) := by
                        obtain ⟨L', e⟩ := hC.last
                        have hL' : L'.length = q := by rw [e, List.length_append] at hlen2; simp at hlen2; omega
                        have := hat q (.int .i64 y) (by rw [e, List.map_append, List.getElem?_append_right (by rw [List.length_map]; omega), List.length_map, hL']; simp)
                        rwa [Nat.zero_add] at this
                      clear hat
                      obtain ⟨p2, hp2⟩ : ∃ p2, q + 1 = p2 := ⟨_, rfl⟩
                      rw [hp2] at hrow8
                      simp only [hp2]
                      go_upto_region 26 with fail
                      have hdr := below_drew wr
                      have v0 : wr.drew.cell? ⟨bh, 0, none⟩ = some (.slice pa m1 pc) := u0
                      have v1 : wr.drew.cell? ⟨bh, 1, none⟩ = some (.slice pb m2 pd) := u1
                      have vl : wr.drew.cell? ⟨gb, q, none⟩ = some (.int .i64 y) := zl
                      have har := around_any wr.drew _ _ gh (ru.below hdr) hgw y false
                      have hqI : (q : Int) ≤ 400 := by omega
                      have e1 : ((p2 : Int) - 1) = q := by omega
                      have e3 : decide ((q : Int) < (p2 : Int)) = true := decide_eq_true (by omega)
                      have e5 : (q : Int) < (p2 : Int) := by omega
                      have e6 : (0 : Int) ≤ (q : Int) := by omega
                      have e4 : decide (q < p2) = true := decide_eq_true (by omega)
                      have e7 : q < p2 := by omega
                      have e8 : (p2 : Int) ≤ 400 := by omega
                      have e9 : IntKind.i64.wrap (q : Int) = q := wrap64_of _ (by omega) (by omega)
                      go_region_held_law (fun w' : World => w'.cell? ⟨bh, 0, none⟩ = some (.slice pa m1 pc) ∧ w'.cell? ⟨bh, 1, none⟩ = some (.slice pb m2 pd) ∧ w'.cell? ⟨gb, q, none⟩ = some (.int .i64 y)) (first | go_keep | exact ⟨v0, v1, vl⟩ | exact dd) (first
                        | (go_at_call 52; refine har.mono ?_; rintro e w9 ⟨vv, rfl, hrow9, hb9⟩; obtain ⟨ra, rc, rfl⟩ := own_shapeG hrow9; have dd : w9.cell? ⟨bh, 0, none⟩ = some (.slice pa m1 pc) ∧ w9.cell? ⟨bh, 1, none⟩ = some (.slice pb m2 pd) ∧ w9.cell? ⟨gb, q, none⟩ = some (.int .i64 y) := ⟨cell_kept (fun hl => hb9.block _ hl) v0, cell_kept (fun hl => hb9.block _ hl) v1, cell_kept (fun hl => hb9.block _ hl) vl⟩))
                      all_goals
                        have hbX : Below wr.heap.size wr w9 := hdr.trans (hb9.mono hdr.size)
                        have hmap9 := hmapu.kept hbX
                        have hb89 := hb8.trans (hbX.mono hb8.size)
                        have hrow8x := own_kept hrow8 (fun b _ hl => hbX.block b hl)
                        have hszX : Wq.heap.size ≤ wr.drew.heap.size := Nat.le_trans hb8.size hdr.size
                        have hend9 := ends_len gh.edges false y gh.edges.length
                        rw [List.take_length] at hend9
                        obtain ⟨l9, hl9⟩ : ∃ l, ends gh.edges false y = l := ⟨_, rfl⟩
                        have HL9 : Hid (ends (frE g.edges s) false y = l9) := Lib.hid (by rw [← HEDG.out]; exact hl9)
                        rw [hl9] at hrow9 hend9
                        simp only [hl9]
                        obtain ⟨m9, hm9⟩ : ∃ m, l9.length = m := ⟨_, rfl⟩
                        have HM9 := Lib.hid hm9
                        rw [hm9] at hrow9 hend9
                        simp only [hm9]
                        have hm94 : m9 ≤ 400 := by omega
                        have hm9I : (m9 : Int) ≤ 400 := by omega
                        have hin9 : Hid (∀ z ∈ l9, I64 z ∧ Rz g.edges s y z ∧ 0 < z) := Lib.hid (fun z hz => by
                          rw [← HL9.out] at hz
                          have hz := mem_ends_from.1 hz
                          have := hw.id z (arc_in hw hz.1).2
                          exact ⟨id_I64 this, hz, by omega⟩)
                        have hN0 := NextI.start g.edges s y left
                        have HC := Lib.hid hC
                        have HLEN := Lib.hid hlen2
                        clear hC hlen2 hl9 hm9 hend9 hdr hb9 hmapu ru har u0 u1 zl v0 v1 vl dd hrow8 e1 e3 e4 e5 e6 e7 e9 hmapq
                        go_wp2_with fail
                        go_loopw [16, 18, 19, 20, 104] (fun nv _ _ _ iv wy => ∃ (j : Nat) (x : Int), j ≤ m9 ∧ iv = .int .i64 j ∧ nv = .int .i64 x ∧ w9 = wy ∧ NextI g.edges s y left (l9.take j) x) (fun _ _ _ _ iv _ => m9 - (intOf iv).toNat)
                        case atStart => exact ⟨0, 0, by omega, by first | rfl | go_num, rfl, rfl, by rw [List.take_zero]; exact hN0⟩
                        case round =>
                          clear hN0
                          obtain ⟨j, x, hj, rfl, rfl, hW, hI⟩ := hrel
                          subst hW
                          by_cases hltj : j < m9
                          · have k0 : decide ((j : Int) < m9) = true := decide_eq_true (by omega)
                            have k0' : decide (j < m9) = true := decide_eq_true hltj
                            have k0'' : (j : Int) < m9 := by omega
                            have hjl : j < l9.length := by rw [HM9.out]; exact hltj
                            obtain ⟨gz, cz, hEq, hgz, hgzl, hat, _⟩ := own_at hrow9 (by omega)
                            injection hEq with q1 _ q3
                            subst q1
                            subst q3
                            have zb : w9.cell? ⟨gz, j, none⟩ = some (.int .i64 l9[j]) := by
                              have := hat j (.int .i64 l9[j]) (by rw [List.getElem?_map, List.getElem?_eq_getElem hjl]; rfl)
                              rwa [Nat.zero_add] at this
                            have hT := take_snoc' l9 j hjl
                            obtain ⟨hyI, hyR, hyP⟩ := hin9.out _ (List.getElem_mem hjl)
                            obtain ⟨z, hz⟩ : ∃ z, l9[j] = z := ⟨_, rfl⟩
                            rw [hz] at zb hT hyI hyR hyP
                            have HT := Lib.hid hT
                            have HI := Lib.hid hI
                            have HR := Lib.hid hyR
                            clear hat hz hT hI hyR hrow9
                            rcases hmap9.look hyI with ⟨d, hd, hlk⟩ | ⟨hnd, d, hlk⟩
                            · have HD := Lib.hid hd
                              clear hd
                              by_cases hdl : d = left
                              · have m0 : decide ((d : Int) = (left : Int)) = true := decide_eq_true (by omega)
                                have m0' : ((d : Int) == (left : Int)) = true := by rw [beq_iff_eq]; omega
                                have hdl2 : (d : Int) = (left : Int) := by omega
                                have HD2 : Hid (Bk g.edges s left z) := Lib.hid (hdl ▸ HD.out)
                                by_cases hx0 : x = 0
                                · have m1 : decide (x = 0) = true := decide_eq_true hx0
                                  have m1' : (x == 0) = true := by rw [beq_iff_eq]; exact hx0
                                  clear hdl
                                  go_wp2_with fail
                                  go_round
                                  case rel => exact ⟨j + 1, z, by omega, by go_num, rfl, by first | rfl | trivial, by rw [HT.out]; exact HI.out.take HR.out HD2.out hyP (.inl (by first | rfl | exact hx0))⟩
                                  case measure => simp [intOf]; omega
                                · have m1 : decide (x = 0) = false := decide_eq_false hx0
                                  have m1' : (x == 0) = false := by rw [beq_eq_false_iff_ne]; exact hx0
                                  by_cases hx1 : z < x
                                  · have m2 : decide (z < x) = true := decide_eq_true hx1
                                    clear hdl
                                    go_wp2_with fail
                                    go_round
                                    case rel => exact ⟨j + 1, z, by omega, by go_num, rfl, by first | rfl | trivial, by rw [HT.out]; exact HI.out.take HR.out HD2.out hyP (.inr hx1)⟩
                                    case measure => simp [intOf]; omega
                                  · have m2 : decide (z < x) = false := decide_eq_false hx1
                                    clear hdl
                                    go_wp2_with fail
                                    go_round
                                    case rel => exact ⟨j + 1, x, by omega, by go_num, rfl, by first | rfl | trivial, by rw [HT.out]; exact HI.out.keep hx0 (by omega)⟩
                                    case measure => simp [intOf]; omega
                              · have m0 : decide ((d : Int) = (left : Int)) = false := decide_eq_false (by omega)
                                have m0' : ((d : Int) == (left : Int)) = false := by rw [beq_eq_false_iff_ne]; omega
                                have hdl2 : ¬ (d : Int) = (left : Int) := by omega
                                go_wp2_with fail
                                go_round
                                case rel => exact ⟨j + 1, x, by omega, by go_num, rfl, by first | rfl | trivial, by rw [HT.out]; exact HI.out.skip (fun q => hdl (HD.out.same q))⟩
                                case measure => simp [intOf]; omega
                            · have HN := Lib.hid hnd
                              clear hnd
                              go_wp2_with fail
                              go_round
                              case rel => exact ⟨j + 1, x, by omega, by go_num, rfl, by first | rfl | trivial, by rw [HT.out]; exact HI.out.skip (HN.out left)⟩
                              case measure => simp [intOf]; omega
                          · have hj3 : m9 = j := by omega
                            subst hj3
                            have k0 : decide ((m9 : Int) < m9) = false := decide_eq_false (by omega)
                            rw [List.take_of_length_le (by rw [HM9.out]; omega), ← HL9.out] at hI
                            have hS := NextI.done HCM.out HC.out hI
                            have HC2 : Hid (Chn g.edges s (n0 + 1) k (L2 ++ [x]) x) := Lib.hid (Chn.step (HK.out ▸ HC.out) (HK.out ▸ hS))
                            have hL2 : L2.length = p2 := by have := HLEN.out; omega
                            clear hI hrow9 hmap9 hltj hS
                            have hkI : (k : Int) ≤ 200 := by have := HK.out; omega
                            have hlk : (left : Int) - 1 = k := by have := HK.out; omega
                            go_wp2_with (at_builtin; refine wpList_append_lies _ rfl (.tmp 131) (.tmp 133) 27 rfl Wq.heap.size 2 i0 (.int .i64 0) 1 8 Tryz.underlying27 hi0 hz0 hz1 hz2 rfl (by decide) _ p2 (L2.map (Value.int .i64)) rfl (hrow8x.alloc _) ⟨_, 0, none⟩ 1 1 [.int .i64 x] rfl rfl (new_cells (by simp) _ _) (by intro u hu; simp at hu; subst hu; rfl) (by decide) (by unfold maxLen; omega) (by omega) (by simp; have := hb89.size; omega) _ rfl ?_; intro gg cap w10 hown10 hgrow10 hat10 hlt10; have hgrow10 : World.grownBy _ w10 (some gb) := hgrow10)
                            go_round
                            case rel => exact ⟨k, p2, L2 ++ [x], x, by have := HK.out; omega, by first | rfl | go_num, (hb89.alloc hb89.size _).grown hgrow10 (by simp; have := hb89.size; omega) (fun q hq => by have := Option.some.inj hq; omega), by rw [List.map_append]; exact hown10, by have := HK.out; omega, HC2.out⟩
                            case measure => have := HK.out; simp [intOf]; omega
                    · have hl3 : left = 0 := by omega
                      subst hl3
                      have p0 : decide ((0 : Int) < ((0 : Nat) : Int)) = false := by simp
                      have hbest : Best g (i + 1) L2 := HBQ.out.best.take hig (by rw [HS.out]; exact ⟨n0 + 1, y, HCM.out, hC⟩) (by
                        rcases HOR.out with e | e
                        · exact .inl (List.length_eq_zero_iff.1 (by rw [HBQ.out.len]; exact e))
                        · right; rw [HBQ.out.len]; omega)
                      have HB2 : Hid (Bst g (i + 1) W1.heap.size wr u5 (q + 1) L2) := Lib.hid ⟨own_lower hrow8 hbwQ.size, by omega, (fun e => by omega), by omega, hbest⟩
                      have HbZ : Hid (Below W1.heap.size W1 wr) := Lib.hid (hbwQ.trans (hb8.mono hbwQ.size))
                      clear hbest hC hlen2 hrow8 hb8
                      go_wp2_with fail
                      go_round
                      case rel => exact ⟨i + 1, q + 1, L2, by omega, by go_num, HbZ.out, HB2.out⟩
                      case measure => simp [intOf]; omega
        · have hi3 : i = n1 := by omega
          have f0 : decide ((i : Int) < n1) = false := decide_eq_false (by omega)
          have f0' : ¬ (i : Int) < n1 := by omega
          have hl := hBs.len
          have hrow := hBs.row
          have hle := hBs.le
          have hBa : Best g g.nodes.length L := by rw [HN1.out, ← hi3]; exact hBs.best
          rw [← hl] at hrow
          obtain ⟨s1, s2⟩ := own_rint hrow (by omega)
          have HS1 := Lib.hid s1
          have HS2 := Lib.hid s2
          have HBA := Lib.hid hBa
          have hwl : w.heap.size ≤ W1.heap.size := hbA.size
          have hbZ : Below w.heap.size w wr := hbA.trans (hbw.mono hbA.size)
          clear hBs hl hrow s1 s2 hi3 hBa
          go_wp2_with fail
          go_ret
          exact ⟨_, ⟨(fun h => by rw [hg] at h; cases h), (fun _ => HBA.out)⟩, _, rfl, HS1.out.mono EInt.mono (fun b hb => Nat.le_trans hwl hb), Own.low HS2.out hwl, hbZ⟩
end Go.Proofs.YtllhimeffkefiaaGreatDoor
