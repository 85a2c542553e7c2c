/- Texts of one proof, joined in their order: each bears its own word of what it holds and on what condition. -/
import Derived.Test.YtllhimeffkefiaaGreatDoorME
set_option linter.unusedVariables false
set_option linter.unusedSimpArgs false
/- impl's test of graphs. Condition: none. -/
set_option linter.unusedVariables false
set_option linter.unusedSimpArgs false
namespace Go.Proofs.YtllhimeffkefiaaGreatDoor
open Go.RowKit Go.Sort

abbrev n0 : Nd := ⟨0, [], []⟩
abbrev d0 : Ed := ⟨0, e0, 0, 0, []⟩
def ndAt (ns : List Nd) (k : Nat) : Bool := ndB (ns.getD k n0) && (decide (k = 0) || decide ((ns.getD (k - 1) n0).id < (ns.getD k n0).id))
def thr (ns : List Nd) (id : Int) : Bool := ns.any fun x => decide (x.id = id)
def edAt (ns : List Nd) (es : List Ed) (k : Nat) : Bool := edB (es.getD k d0) && (decide (k = 0) || decide ((es.getD (k - 1) d0).id < (es.getD k d0).id)) && thr ns (es.getD k d0).src && thr ns (es.getD k d0).dst
def gOk (g : Gr) : Bool := decide (g.nodes.length ≤ 200) && decide (g.edges.length ≤ 400) && allN (ndAt g.nodes) g.nodes.length && allN (edAt g.nodes g.edges) g.edges.length
/-- what the map of the nodes that are there holds after k of them -/
def theF (ns : List Nd) (k : Nat) (id : Int) : Int := if thr (ns.take k) id then 1 else 0
theorem theF_zero (ns : List Nd) : theF ns 0 = fun _ => 0 := by
  funext id
  simp [theF, thr]
theorem theF_succ {ns : List Nd} {k : Nat} (h : k < ns.length) : upd (theF ns k) ns[k].id 1 = theF ns (k + 1) := by
  funext id
  unfold upd theF thr
  rw [List.take_add_one, List.getElem?_eq_getElem h]
  simp only [Option.toList, List.any_append, List.any_cons, List.any_nil, Bool.or_false]
  by_cases e : id = ns[k].id
  · subst e; simp
  · rw [if_neg e, decide_eq_false (fun q => e q.symm), Bool.or_false]
theorem theF_all (ns : List Nd) (id : Int) : theF ns ns.length id = if thr ns id then 1 else 0 := by unfold theF; rw [List.take_length]
theorem okId_I64 {n : Int} (h : okId n = true) : I64 n := by
  have : 1 ≤ n ∧ n ≤ 1000000000000 := by simpa [okId] using h
  exact ⟨by omega, by omega⟩
theorem ndB_id {x : Nd} (h : ndB x = true) : okId x.id = true := by unfold ndB at h; simp at h; exact h.1.1
theorem edB_ids {x : Ed} (h : edB x = true) : okId x.src = true ∧ okId x.dst = true := by unfold edB at h; simp at h; exact ⟨h.1.1.2, h.1.2⟩
theorem nodeOk_is (w : World) (hE : Env w) (S : Nat → Prop) (x : Nd) (a1 a2 : Option Addr) (c1 c2 : Nat) (b : Bool) (hb : ndB x = b) (h1 : RStr w S (.slice a1 x.labels.length c1) x.labels) (h2 : RFld w S (.slice a2 x.fields.length c2) x.fields) :
    Calls Tryz.prog 82 #[.agg #[.int .i64 x.id, .slice a1 x.labels.length c1, .slice a2 x.fields.length c2]] w (BoolB b w) := hb ▸ nodeOk_any w hE S x a1 a2 c1 c2 h1 h2
theorem edgeOk_is (w : World) (hE : Env w) (S : Nat → Prop) (x : Ed) (a2 : Option Addr) (c2 : Nat) (b : Bool) (hb : edB x = b) (h2 : RFld w S (.slice a2 x.fields.length c2) x.fields) :
    Calls Tryz.prog 83 #[.agg #[.int .i64 x.id, .string x.type, .int .i64 x.src, .int .i64 x.dst, .slice a2 x.fields.length c2]] w (BoolB b w) := hb ▸ edgeOk_any w hE S x a2 c2 h2
theorem zero3 (w : World) : (zeroValue 3).run Tryz.prog w = .ok (.int .i64 0) w := by kernel_rfl
theorem look83 {w : World} {b n : Nat} {f : Int → Int} (h : MapI 3 w b n f) {id x : Int} (hi : I64 id) (hx : f id = x) : (Instr.lookup 131 (.map (some b)) (.int .i64 id) false).run Tryz.prog w = .ok (.int .i64 x) w := hx ▸ h.look Tryz.underlying131 Tryz.underlying3 (zero3 w) hi

/-- within graphOk: the graph's box bg, the map bm -/
structure Gm (w W : World) (bg bm : Nat) (v1 v2 : Value) (n : Nat) (f : Int → Int) : Prop where
  g0 : W.cell? ⟨bg, 0, none⟩ = some v1
  g1 : W.cell? ⟨bg, 1, none⟩ = some v2
  map : MapI 3 W bm n f
  ne : bg ≠ bm
  lo : w.heap.size ≤ bg
  lm : w.heap.size ≤ bm
  below : Below w.heap.size w W
theorem Gm.step {w W W' : World} {bg bm n : Nat} {v1 v2 : Value} {f : Int → Int} (h : Gm w W bg bm v1 v2 n f) (hb : Below W.heap.size W W') : Gm w W' bg bm v1 v2 n f :=
  ⟨cell_kept (fun hl => hb.block bg hl) h.g0, cell_kept (fun hl => hb.block bg hl) h.g1, h.map.below (hb.block bm h.map.lt), h.ne, h.lo, h.lm, h.below.trans (hb.mono h.below.size)⟩
theorem Gm.put {w W : World} {bg bm n : Nat} {v1 v2 : Value} {f : Int → Int} (h : Gm w W bg bm v1 v2 n f) (hn : n < 1048576) {id x : Int} (hi : I64 id) (hx : I64 x) :
    ∃ W', (Instr.mapUpdate 131 (.map (some bm)) (.int .i64 id) (.int .i64 x)).run Tryz.prog W = .ok () W' ∧ Gm w W' bg bm v1 v2 (n + 1) (upd f id x) := by
  obtain ⟨W', hr, hm, hg⟩ := h.map.put Tryz.underlying131 Tryz.underlying3 hn hi hx
  have hne := h.ne
  have hlm := h.lm
  exact ⟨W', hr, cell_kept (fun hl => hg.block bg hl (fun e => hne (by injection e))) h.g0, cell_kept (fun hl => hg.block bg hl (fun e => hne (by injection e))) h.g1, hm, hne, h.lo, hlm,
    ⟨hg.os.trans h.below.os, hg.tape.trans h.below.tape, hg.output.trans h.below.output, Nat.le_trans h.below.size hg.size, fun b hb => (hg.block b (Nat.lt_of_lt_of_le hb h.below.size) (fun e => by injection e with e; omega)).trans (h.below.block b hb)⟩⟩

set_option maxHeartbeats 1000000 in
set_option maxRecDepth 100000 in
theorem graphOk_any (w : World) (hE : Env w) (S : Nat → Prop) (v : Value) (g : Gr) (h : RGr w S v g) : Calls Tryz.prog 48 #[v] w (BoolB (gOk g) w) := by
  obtain ⟨v1, v2, rfl, h1, h2⟩ := h
  obtain ⟨ns, es⟩ := g
  obtain ⟨a1, c1, rfl⟩ := h1.shape
  obtain ⟨a2, c2, rfl⟩ := h2.shape
  simp only at h1 h2 ⊢
  have hl1 := h1.len
  have hl2 := h2.len
  have hl1' : (ns.length : Int) ≤ 9223372036854775807 := by omega
  have hl2' : (es.length : Int) ≤ 9223372036854775807 := by omega
  by_cases hn : ns.length ≤ 200
  case neg =>
    have HF : Hid (gOk ⟨ns, es⟩ = false) := Lib.hid (by unfold gOk; simp only; rw [decide_eq_false hn]; rfl)
    have g1 : decide ((200 : Int) < ns.length) = true := decide_eq_true (by omega)
    have g2 : decide (200 < ns.length) = true := decide_eq_true (by omega)
    go_enter Tryz.func48, Tryz.ntmps48
    go_wp2
    go_ret
    exact ⟨by rw [HF.out]; rfl, (Below.refl _ w).alloc (Nat.le_refl _) _⟩
  by_cases he : es.length ≤ 400
  case neg =>
    have HF : Hid (gOk ⟨ns, es⟩ = false) := Lib.hid (by unfold gOk; simp only; rw [decide_eq_false he]; simp)
    have g1 : decide ((200 : Int) < ns.length) = false := decide_eq_false (by omega)
    have g2 : decide (200 < ns.length) = false := decide_eq_false (by omega)
    have g3 : decide ((400 : Int) < es.length) = true := decide_eq_true (by omega)
    have g4 : decide (400 < es.length) = true := decide_eq_true (by omega)
    go_enter Tryz.func48, Tryz.ntmps48
    go_wp2
    go_ret
    exact ⟨by rw [HF.out]; rfl, (Below.refl _ w).alloc (Nat.le_refl _) _⟩
  have HR : Hid (gOk ⟨ns, es⟩ = (allN (ndAt ns) ns.length && allN (edAt ns es) es.length)) := Lib.hid (by unfold gOk; simp only; rw [decide_eq_true hn, decide_eq_true he]; rfl)
  have g1 : decide ((200 : Int) < ns.length) = false := decide_eq_false (by omega)
  have g2 : decide (200 < ns.length) = false := decide_eq_false (by omega)
  have g3 : decide ((400 : Int) < es.length) = false := decide_eq_false (by omega)
  have g4 : decide (400 < es.length) = false := decide_eq_false (by omega)
  have hn' : (ns.length : Int) ≤ 200 := by omega
  have he' : (es.length : Int) ≤ 400 := by omega
  have hmm := @run_makeMap Tryz.prog
  go_enter Tryz.func48, Tryz.ntmps48
  go_wp2
  have hb0 := (Below.refl _ w).alloc (Nat.le_refl _) (.cells #[.slice a1 ns.length c1, .slice a2 es.length c2] 36)
  have hb1 := hb0.alloc hb0.size (.map #[] 0)
  have hG : Gm w ((w.alloc (.cells #[.slice a1 ns.length c1, .slice a2 es.length c2] 36)).alloc (.map #[] 0)) w.heap.size (w.heap.size + 1) (.slice a1 ns.length c1) (.slice a2 es.length c2) 0 (theF ns 0) := by
    have hm := MapI.made 3 (w.alloc (.cells #[.slice a1 ns.length c1, .slice a2 es.length c2] 36))
    rw [← theF_zero ns] at hm
    exact ⟨cell_kept (fun hl => ((Below.refl _ _).alloc (Nat.le_refl _) _).block _ hl) (by rw [World.cell?_alloc_mark]; rfl), cell_kept (fun hl => ((Below.refl _ _).alloc (Nat.le_refl _) _).block _ hl) (by rw [World.cell?_alloc_mark]; rfl), by simpa using hm, by omega, by omega, by omega, hb1⟩
  obtain ⟨bg, hbg⟩ : ∃ bg, w.heap.size = bg := ⟨_, rfl⟩
  have hG' : Gm w ((w.alloc (.cells #[.slice a1 ns.length c1, .slice a2 es.length c2] 36)).alloc (.map #[] 0)) bg (bg + 1) (.slice a1 ns.length c1) (.slice a2 es.length c2) 0 (theF ns 0) := by rw [← hbg]; exact hG
  rw [hbg]
  obtain ⟨bm, hbm⟩ : ∃ bm, bg + 1 = bm := ⟨_, rfl⟩
  rw [hbm] at hG' ⊢
  clear hG hb1
  generalize (w.alloc (.cells #[.slice a1 ns.length c1, .slice a2 es.length c2] 36)).alloc (.map #[] 0) = W0 at hG' ⊢
  clear hbm hb0
  go_loopw [22] (fun i wr => ∃ k : Nat, k ≤ ns.length ∧ i = .int .i64 k ∧ Hid (allN (ndAt ns) k = true) ∧ Gm w wr bg bm (.slice a1 ns.length c1) (.slice a2 es.length c2) k (theF ns k)) (fun i wr => ns.length - (intOf i).toNat)
  case atStart => exact ⟨0, by omega, rfl, Lib.hid rfl, hG'⟩
  case round =>
    obtain ⟨k, hk, rfl, HA, hM⟩ := hrel
    have hk2 : (k : Int) ≤ ns.length := by omega
    by_cases hlt : k < ns.length
    · have hr := h1.below ENd.kept hM.below
      obtain ⟨b, o, l1, d1, l2, d2, rfl, hS0, hc, hcl, hcf, hll, hff⟩ := RNd.at hr hlt
      have hlt2 : (k : Int) < ns.length := by omega
      obtain ⟨x, hx⟩ : ∃ x, ns[k] = x := ⟨_, rfl⟩
      rw [hx] at hc hcl hcf hll hff
      have HX : Hid (ns[k] = x) := Lib.hid hx
      have HS : Hid (ns.getD k n0 = x) := Lib.hid (by rw [getD_eq hlt, hx])
      obtain ⟨xi, hxi⟩ : ∃ xi, x.id = xi := ⟨_, rfl⟩
      obtain ⟨xl, hxl⟩ : ∃ xl, x.labels.length = xl := ⟨_, rfl⟩
      obtain ⟨xf, hxf⟩ : ∃ xf, x.fields.length = xf := ⟨_, rfl⟩
      obtain ⟨q1, hq⟩ : ∃ q, ndB x = q := ⟨_, rfl⟩
      have hnk : ∀ (u : World) (hEu : Env u), RStr u S (.slice l1 xl d1) x.labels → RFld u S (.slice l2 xf d2) x.fields → Calls Tryz.prog 82 #[.agg #[.int .i64 xi, .slice l1 xl d1, .slice l2 xf d2]] u (BoolB q1 u) := fun u hEu r1 r2 => by
        rw [← hxi, ← hxl, ← hxf] at *
        exact nodeOk_is u hEu S x l1 l2 d1 d2 q1 hq r1 r2
      rw [hxi] at hc
      rw [hxl] at hcl hll
      rw [hxf] at hcf hff
      have HI : Hid (x.id = xi) := Lib.hid hxi
      clear hx hxi hxl hxf
      have hI2 : q1 = true → I64 xi := fun h => by have := okId_I64 (ndB_id (hq.trans h)); rwa [HI.out] at this
      have hEr := hE.below hM.below
      have hprev : k ≠ 0 → ∃ pid, wr.cell? ⟨b, o + (k - 1) * 3, none⟩ = some (.int .i64 pid) ∧ (ns.getD (k - 1) n0).id = pid := fun h0 => by
        obtain ⟨b', o', _, _, _, _, hab, _, hc', _⟩ := RNd.at hr (k := k - 1) (by omega)
        cases hab
        exact ⟨_, hc', by rw [getD_eq (by omega)]⟩
      have hba := (Below.refl _ wr).alloc (Nat.le_refl _) (.cells #[.int .i64 xi, .slice l1 xl d1, .slice l2 xf d2] 74)
      have hM1 := hM.step hba
      have x0 : (wr.alloc (.cells #[.int .i64 xi, .slice l1 xl d1, .slice l2 xf d2] 74)).cell? ⟨wr.heap.size, 0, none⟩ = some (.int .i64 xi) := by rw [World.cell?_alloc_mark]; rfl
      have x1 : (wr.alloc (.cells #[.int .i64 xi, .slice l1 xl d1, .slice l2 xf d2] 74)).cell? ⟨wr.heap.size, 1, none⟩ = some (.slice l1 xl d1) := by rw [World.cell?_alloc_mark]; rfl
      have x2 : (wr.alloc (.cells #[.int .i64 xi, .slice l1 xl d1, .slice l2 xf d2] 74)).cell? ⟨wr.heap.size, 2, none⟩ = some (.slice l2 xf d2) := by rw [World.cell?_alloc_mark]; rfl
      have hllW := hll.below EStr.kept hba
      have hffW := hff.below EFld.kept hba
      obtain ⟨bx, hbxe⟩ : ∃ bx, wr.heap.size = bx := ⟨_, rfl⟩
      cases q1 with
      | false =>
        have HF : Hid (gOk ⟨ns, es⟩ = false) := Lib.hid (by rw [HR.out, allN_no hlt (by unfold ndAt; rw [HS.out, hq]; rfl)]; rfl)
        clear hprev hI2 hq
        have k0 := hM.g0
        go_wp2_with fail
        rw [hbxe] at x0 x1 x2
        generalize wr.alloc (.cells #[.int .i64 xi, .slice l1 xl d1, .slice l2 xf d2] 74) = W at hM1 x0 x1 x2 hllW hffW ⊢
        clear hba k0 hc hcl hcf
        refine region_ext (by kernel_rfl) (by kernel_rfl) ?_
        have y0 := Ext.cell x0
        have y1 := Ext.cell x1
        have y2 := Ext.cell x2
        have yg := Ext.cell hM1.g0
        have hEW := hE.below hM1.below
        repeat (first | go_big_quiet_skip | (go_big_quiet_want; go_big_quiet_op; first | go_big_quiet_on | (refine ⟨_, fun u => (hnk u.w (hEW.below u.below) (hllW.below EStr.kept u.below) (hffW.below EFld.kept u.below)).mono fun e w' h => ⟨h.1, ⟨w', u.below.trans (h.2.mono u.below.size)⟩, rfl⟩, ?_⟩; go_big_quiet_on)))
        refine wpQuiet_nil ?_
        intro w2 hb2
        clear y0 y1 y2 yg hnk hEW
        go_wp2_with fail
        go_ret
        exact ⟨by rw [HF.out]; rfl, hM1.below.trans (hb2.mono hM1.below.size)⟩
      | true =>
        have hI3 := hI2 rfl
        by_cases h0 : k = 0
        · subst h0
          have HN : Hid (allN (ndAt ns) 1 = true) := Lib.hid (allN_up HA.out (by unfold ndAt; rw [HS.out, hq]; rfl))
          clear hprev hI2 hq
          simp only [Nat.zero_mul, Nat.add_zero] at hc hcl hcf
          have k0 := hM.g0
          go_wp2_with fail
          rw [hbxe] at x0 x1 x2
          generalize wr.alloc (.cells #[.int .i64 xi, .slice l1 xl d1, .slice l2 xf d2] 74) = W at hM1 x0 x1 x2 hllW hffW ⊢
          clear hba k0 hc hcl hcf
          refine region_ext (by kernel_rfl) (by kernel_rfl) ?_
          have y0 := Ext.cell x0
          have y1 := Ext.cell x1
          have y2 := Ext.cell x2
          have yg := Ext.cell hM1.g0
          have hEW := hE.below hM1.below
          repeat (first | go_big_quiet_skip | (go_big_quiet_want; go_big_quiet_op; first | go_big_quiet_on | (refine ⟨_, fun u => (hnk u.w (hEW.below u.below) (hllW.below EStr.kept u.below) (hffW.below EFld.kept u.below)).mono fun e w' h => ⟨h.1, ⟨w', u.below.trans (h.2.mono u.below.size)⟩, rfl⟩, ?_⟩; go_big_quiet_on)))
          refine wpQuiet_nil ?_
          intro w2 hb2
          clear y0 y1 y2 yg hnk hEW
          have hM2 := hM1.step hb2
          have z0 : w2.cell? ⟨bx, 0, none⟩ = some (.int .i64 xi) := cell_kept (fun hl => hb2.block bx hl) x0
          obtain ⟨w3, hr3, hM3⟩ := hM2.put (by omega) hI3 (⟨by decide, by decide⟩ : I64 1)
          have hT := theF_succ hlt
          rw [HX.out, HI.out] at hT
          rw [hT] at hM3
          go_wp2_with fail
          go_round
          case rel => exact ⟨1, by omega, rfl, HN, hM3⟩
          case measure => simp [intOf]; omega
        · obtain ⟨pid, hpc, hpi⟩ := hprev h0
          have g5 : ((k : Int) - 1).toNat = k - 1 := by omega
          have g6 : decide ((0 : Int) < k) = true := decide_eq_true (by omega)
          have g7 : decide (0 < k) = true := decide_eq_true (by omega)
          have g8 : (0 : Int) ≤ (k : Int) - 1 := by omega
          have g9 : (k : Int) - 1 < ns.length := by omega
          have hpW := cell_kept (fun hl => hba.block b hl) hpc
          by_cases hless : pid < xi
          · have HN : Hid (allN (ndAt ns) (k + 1) = true) := Lib.hid (allN_up HA.out (by unfold ndAt; rw [HS.out, hq, hpi, HI.out, decide_eq_true hless]; simp))
            have gA : decide (xi ≤ pid) = false := decide_eq_false (by omega)
            clear hprev hI2 hq
            have k0 := hM.g0
            go_wp2_with fail
            rw [hbxe] at x0 x1 x2
            generalize wr.alloc (.cells #[.int .i64 xi, .slice l1 xl d1, .slice l2 xf d2] 74) = W at hM1 x0 x1 x2 hllW hffW hpW ⊢
            clear hba k0 hc hcl hcf
            refine region_ext (by kernel_rfl) (by kernel_rfl) ?_
            have y0 := Ext.cell x0
            have y1 := Ext.cell x1
            have y2 := Ext.cell x2
            have yg := Ext.cell hM1.g0
            have yp := Ext.cell hpW
            have hEW := hE.below hM1.below
            repeat (first | go_big_quiet_skip | (go_big_quiet_want; go_big_quiet_op; first | go_big_quiet_on | (refine ⟨_, fun u => (hnk u.w (hEW.below u.below) (hllW.below EStr.kept u.below) (hffW.below EFld.kept u.below)).mono fun e w' h => ⟨h.1, ⟨w', u.below.trans (h.2.mono u.below.size)⟩, rfl⟩, ?_⟩; go_big_quiet_on)))
            refine wpQuiet_nil ?_
            intro w2 hb2
            clear y0 y1 y2 yg yp hnk hEW
            have hM2 := hM1.step hb2
            have z0 : w2.cell? ⟨bx, 0, none⟩ = some (.int .i64 xi) := cell_kept (fun hl => hb2.block bx hl) x0
            obtain ⟨w3, hr3, hM3⟩ := hM2.put (by omega) hI3 (⟨by decide, by decide⟩ : I64 1)
            have hT := theF_succ hlt
            rw [HX.out, HI.out] at hT
            rw [hT] at hM3
            go_wp2_with fail
            go_round
            case rel => exact ⟨k + 1, by omega, by go_num, HN, hM3⟩
            case measure => simp [intOf]; omega
          · have HF : Hid (gOk ⟨ns, es⟩ = false) := Lib.hid (by rw [HR.out, allN_no hlt (by unfold ndAt; rw [HS.out, hq, hpi, HI.out, decide_eq_false hless, decide_eq_false h0]; rfl)]; rfl)
            have gA : decide (xi ≤ pid) = true := decide_eq_true (by omega)
            clear hprev hI2 hq
            have k0 := hM.g0
            go_wp2_with fail
            rw [hbxe] at x0 x1 x2
            generalize wr.alloc (.cells #[.int .i64 xi, .slice l1 xl d1, .slice l2 xf d2] 74) = W at hM1 x0 x1 x2 hllW hffW hpW ⊢
            clear hba k0 hc hcl hcf
            refine region_ext (by kernel_rfl) (by kernel_rfl) ?_
            have y0 := Ext.cell x0
            have y1 := Ext.cell x1
            have y2 := Ext.cell x2
            have yg := Ext.cell hM1.g0
            have yp := Ext.cell hpW
            have hEW := hE.below hM1.below
            repeat (first | go_big_quiet_skip | (go_big_quiet_want; go_big_quiet_op; first | go_big_quiet_on | (refine ⟨_, fun u => (hnk u.w (hEW.below u.below) (hllW.below EStr.kept u.below) (hffW.below EFld.kept u.below)).mono fun e w' h => ⟨h.1, ⟨w', u.below.trans (h.2.mono u.below.size)⟩, rfl⟩, ?_⟩; go_big_quiet_on)))
            refine wpQuiet_nil ?_
            intro w2 hb2
            clear y0 y1 y2 yg yp hnk hEW
            go_wp2_with fail
            go_ret
            exact ⟨by rw [HF.out]; rfl, hM1.below.trans (hb2.mono hM1.below.size)⟩
    · have hk3 : k = ns.length := by omega
      subst hk3
      have g5 : decide ((ns.length : Int) < ns.length) = false := decide_eq_false (by omega)
      clear hk hk2 hlt
      have hRN : Hid (allN (ndAt ns) ns.length = true) := HA
      have q1 := hM.g1
      go_wp2
      clear q1
      go_loopw [53] (fun i wr => ∃ k : Nat, k ≤ es.length ∧ i = .int .i64 k ∧ Hid (allN (edAt ns es) k = true) ∧ Gm w wr bg bm (.slice a1 ns.length c1) (.slice a2 es.length c2) ns.length (theF ns ns.length)) (fun i wr => es.length - (intOf i).toNat)
      case atStart => exact ⟨0, by omega, rfl, Lib.hid rfl, hM⟩
      case round =>
        clear hM HA g5
        obtain ⟨k, hk, rfl, HA, hM⟩ := hrel
        have hk2 : (k : Int) ≤ es.length := by omega
        by_cases hlt : k < es.length
        · have hr := h2.below EEd.kept hM.below
          obtain ⟨b, o, l2, d2, rfl, hS0, hc, hct, hcs, hcd, hcf, hff, hzt⟩ := REd.at hr hlt
          have hlt2 : (k : Int) < es.length := by omega
          obtain ⟨x, hx⟩ : ∃ x, es[k] = x := ⟨_, rfl⟩
          rw [hx] at hc hct hcs hcd hcf hff hzt
          have HS : Hid (es.getD k d0 = x) := Lib.hid (by rw [getD_eq hlt, hx])
          obtain ⟨xi, hxi⟩ : ∃ xi, x.id = xi := ⟨_, rfl⟩
          obtain ⟨xt, hxt⟩ : ∃ xt, x.type = xt := ⟨_, rfl⟩
          obtain ⟨xs, hxs⟩ : ∃ xs, x.src = xs := ⟨_, rfl⟩
          obtain ⟨xd, hxd⟩ : ∃ xd, x.dst = xd := ⟨_, rfl⟩
          obtain ⟨xf, hxf⟩ : ∃ xf, x.fields.length = xf := ⟨_, rfl⟩
          obtain ⟨q1, hq⟩ : ∃ q, edB x = q := ⟨_, rfl⟩
          have hek : ∀ (u : World) (hEu : Env u), RFld u S (.slice l2 xf d2) x.fields → Calls Tryz.prog 83 #[.agg #[.int .i64 xi, .string xt, .int .i64 xs, .int .i64 xd, .slice l2 xf d2]] u (BoolB q1 u) := fun u hEu r2 => by
            rw [← hxi, ← hxt, ← hxs, ← hxd, ← hxf] at *
            exact edgeOk_is u hEu S x l2 d2 q1 hq r2
          have hI2 : q1 = true → I64 xs ∧ I64 xd := fun h => by
            have := edB_ids (hq.trans h)
            rw [hxs, hxd] at this
            exact ⟨okId_I64 this.1, okId_I64 this.2⟩
          rw [hxi] at hc
          rw [hxt] at hct hzt
          rw [hxs] at hcs
          rw [hxd] at hcd
          rw [hxf] at hcf hff
          have HI : Hid (x.id = xi) := Lib.hid hxi
          have HD : Hid (x.src = xs ∧ x.dst = xd) := Lib.hid ⟨hxs, hxd⟩
          clear hx hxi hxt hxs hxd hxf
          have hEr := hE.below hM.below
          have hprev : k ≠ 0 → ∃ pid, wr.cell? ⟨b, o + (k - 1) * 5, none⟩ = some (.int .i64 pid) ∧ (es.getD (k - 1) d0).id = pid := fun h0 => by
            obtain ⟨b', o', _, _, hab, _, hc', _⟩ := REd.at hr (k := k - 1) (by omega)
            cases hab
            exact ⟨_, hc', by rw [getD_eq (by omega)]⟩
          have hba := (Below.refl _ wr).alloc (Nat.le_refl _) (.cells #[.int .i64 xi, .string xt, .int .i64 xs, .int .i64 xd, .slice l2 xf d2] 122)
          have hM1 := hM.step hba
          have x0 : (wr.alloc (.cells #[.int .i64 xi, .string xt, .int .i64 xs, .int .i64 xd, .slice l2 xf d2] 122)).cell? ⟨wr.heap.size, 0, none⟩ = some (.int .i64 xi) := by rw [World.cell?_alloc_mark]; rfl
          have x1 : (wr.alloc (.cells #[.int .i64 xi, .string xt, .int .i64 xs, .int .i64 xd, .slice l2 xf d2] 122)).cell? ⟨wr.heap.size, 1, none⟩ = some (.string xt) := by rw [World.cell?_alloc_mark]; rfl
          have x2 : (wr.alloc (.cells #[.int .i64 xi, .string xt, .int .i64 xs, .int .i64 xd, .slice l2 xf d2] 122)).cell? ⟨wr.heap.size, 2, none⟩ = some (.int .i64 xs) := by rw [World.cell?_alloc_mark]; rfl
          have x3 : (wr.alloc (.cells #[.int .i64 xi, .string xt, .int .i64 xs, .int .i64 xd, .slice l2 xf d2] 122)).cell? ⟨wr.heap.size, 3, none⟩ = some (.int .i64 xd) := by rw [World.cell?_alloc_mark]; rfl
          have x4 : (wr.alloc (.cells #[.int .i64 xi, .string xt, .int .i64 xs, .int .i64 xd, .slice l2 xf d2] 122)).cell? ⟨wr.heap.size, 4, none⟩ = some (.slice l2 xf d2) := by rw [World.cell?_alloc_mark]; rfl
          have hffW := hff.below EFld.kept hba
          obtain ⟨bx, hbxe⟩ : ∃ bx, wr.heap.size = bx := ⟨_, rfl⟩
          cases q1 with
          | false =>
            have HF : Hid (gOk ⟨ns, es⟩ = false) := Lib.hid (by rw [HR.out, allN_no (p := edAt ns es) hlt (by unfold edAt; rw [HS.out, hq]; rfl)]; simp)
            clear hprev hI2 hq
            have k0 := hM.g1
            go_wp2_with fail
            rw [hbxe] at x0 x1 x2 x3 x4
            generalize wr.alloc (.cells #[.int .i64 xi, .string xt, .int .i64 xs, .int .i64 xd, .slice l2 xf d2] 122) = W at hM1 x0 x1 x2 x3 x4 hffW ⊢
            clear hba k0 hc hct hcs hcd hcf
            refine region_ext (by kernel_rfl) (by kernel_rfl) ?_
            have y0 := Ext.cell x0
            have y1 := Ext.cell x1
            have y2 := Ext.cell x2
            have y3 := Ext.cell x3
            have y4 := Ext.cell x4
            have yg := Ext.cell hM1.g1
            have hEW := hE.below hM1.below
            repeat (first | go_big_quiet_skip | (go_big_quiet_want; go_big_quiet_op; first | go_big_quiet_on | (refine ⟨_, fun u => (hek u.w (hEW.below u.below) (hffW.below EFld.kept u.below)).mono fun e w' h => ⟨h.1, ⟨w', u.below.trans (h.2.mono u.below.size)⟩, rfl⟩, ?_⟩; go_big_quiet_on)))
            refine wpQuiet_nil ?_
            intro w2 hb2
            clear y0 y1 y2 y3 y4 yg hek hEW
            go_wp2_with fail
            go_ret
            exact ⟨by rw [HF.out]; rfl, hM1.below.trans (hb2.mono hM1.below.size)⟩
          | true =>
            obtain ⟨hIs, hId⟩ := hI2 rfl
            obtain ⟨t1, ht1⟩ : ∃ t, thr ns xs = t := ⟨_, rfl⟩
            obtain ⟨t2, ht2⟩ : ∃ t, thr ns xd = t := ⟨_, rfl⟩
            have hT1 : theF ns ns.length xs = if t1 then 1 else 0 := by rw [theF_all, ht1]
            have hT2 : theF ns ns.length xd = if t2 then 1 else 0 := by rw [theF_all, ht2]
            by_cases h0 : k = 0
            · subst h0
              have hAt : edAt ns es 0 = (t1 && t2) := by unfold edAt; rw [HS.out, hq, HD.out.1, HD.out.2, ht1, ht2]; rfl
              clear hprev hI2 hq ht1 ht2
              simp only [Nat.zero_mul, Nat.add_zero] at hc hct hcs hcd hcf
              cases t1
              · have HF : Hid (gOk ⟨ns, es⟩ = false) := Lib.hid (by rw [HR.out, allN_no (p := edAt ns es) hlt (hAt.trans (by simp))]; simp)
                have k0 := hM.g1
                go_wp2_with fail
                rw [hbxe] at x0 x1 x2 x3 x4
                generalize wr.alloc (.cells #[.int .i64 xi, .string xt, .int .i64 xs, .int .i64 xd, .slice l2 xf d2] 122) = W at hM1 x0 x1 x2 x3 x4 hffW ⊢
                clear hba k0 hc hct hcs hcd hcf
                refine region_ext (by kernel_rfl) (by kernel_rfl) ?_
                have y0 := Ext.cell x0
                have y1 := Ext.cell x1
                have y2 := Ext.cell x2
                have y3 := Ext.cell x3
                have y4 := Ext.cell x4
                have yg := Ext.cell hM1.g1
                have yl1 := fun u : Ext W => look83 (hM1.step u.below).map hIs hT1
                have yl2 := fun u : Ext W => look83 (hM1.step u.below).map hId hT2
                simp only [if_true, Bool.false_eq_true, if_false] at yl1 yl2
                have hEW := hE.below hM1.below
                repeat (first | go_big_quiet_skip | (go_big_quiet_want; go_big_quiet_op; first | go_big_quiet_on | (refine ⟨_, fun u => (hek u.w (hEW.below u.below) (hffW.below EFld.kept u.below)).mono fun e w' h => ⟨h.1, ⟨w', u.below.trans (h.2.mono u.below.size)⟩, rfl⟩, ?_⟩; go_big_quiet_on)))
                refine wpQuiet_nil ?_
                intro w2 hb2
                clear y0 y1 y2 y3 y4 yg yl1 yl2 hek hEW
                go_wp2_with fail
                go_ret
                exact ⟨by rw [HF.out]; rfl, hM1.below.trans (hb2.mono hM1.below.size)⟩
              cases t2
              · have HF : Hid (gOk ⟨ns, es⟩ = false) := Lib.hid (by rw [HR.out, allN_no (p := edAt ns es) hlt (hAt.trans (by simp))]; simp)
                have k0 := hM.g1
                go_wp2_with fail
                rw [hbxe] at x0 x1 x2 x3 x4
                generalize wr.alloc (.cells #[.int .i64 xi, .string xt, .int .i64 xs, .int .i64 xd, .slice l2 xf d2] 122) = W at hM1 x0 x1 x2 x3 x4 hffW ⊢
                clear hba k0 hc hct hcs hcd hcf
                refine region_ext (by kernel_rfl) (by kernel_rfl) ?_
                have y0 := Ext.cell x0
                have y1 := Ext.cell x1
                have y2 := Ext.cell x2
                have y3 := Ext.cell x3
                have y4 := Ext.cell x4
                have yg := Ext.cell hM1.g1
                have yl1 := fun u : Ext W => look83 (hM1.step u.below).map hIs hT1
                have yl2 := fun u : Ext W => look83 (hM1.step u.below).map hId hT2
                simp only [if_true, Bool.false_eq_true, if_false] at yl1 yl2
                have hEW := hE.below hM1.below
                repeat (first | go_big_quiet_skip | (go_big_quiet_want; go_big_quiet_op; first | go_big_quiet_on | (refine ⟨_, fun u => (hek u.w (hEW.below u.below) (hffW.below EFld.kept u.below)).mono fun e w' h => ⟨h.1, ⟨w', u.below.trans (h.2.mono u.below.size)⟩, rfl⟩, ?_⟩; go_big_quiet_on)))
                refine wpQuiet_nil ?_
                intro w2 hb2
                clear y0 y1 y2 y3 y4 yg yl1 yl2 hek hEW
                go_wp2_with fail
                go_ret
                exact ⟨by rw [HF.out]; rfl, hM1.below.trans (hb2.mono hM1.below.size)⟩
              · have HN : Hid (allN (edAt ns es) 1 = true) := Lib.hid (allN_up HA.out hAt)
                have k0 := hM.g1
                go_wp2_with fail
                rw [hbxe] at x0 x1 x2 x3 x4
                generalize wr.alloc (.cells #[.int .i64 xi, .string xt, .int .i64 xs, .int .i64 xd, .slice l2 xf d2] 122) = W at hM1 x0 x1 x2 x3 x4 hffW ⊢
                clear hba k0 hc hct hcs hcd hcf
                refine region_ext (by kernel_rfl) (by kernel_rfl) ?_
                have y0 := Ext.cell x0
                have y1 := Ext.cell x1
                have y2 := Ext.cell x2
                have y3 := Ext.cell x3
                have y4 := Ext.cell x4
                have yg := Ext.cell hM1.g1
                have yl1 := fun u : Ext W => look83 (hM1.step u.below).map hIs hT1
                have yl2 := fun u : Ext W => look83 (hM1.step u.below).map hId hT2
                simp only [if_true, Bool.false_eq_true, if_false] at yl1 yl2
                have hEW := hE.below hM1.below
                repeat (first | go_big_quiet_skip | (go_big_quiet_want; go_big_quiet_op; first | go_big_quiet_on | (refine ⟨_, fun u => (hek u.w (hEW.below u.below) (hffW.below EFld.kept u.below)).mono fun e w' h => ⟨h.1, ⟨w', u.below.trans (h.2.mono u.below.size)⟩, rfl⟩, ?_⟩; go_big_quiet_on)))
                refine wpQuiet_nil ?_
                intro w2 hb2
                clear y0 y1 y2 y3 y4 yg yl1 yl2 hek hEW
                have hM2 := hM1.step hb2
                go_wp2_with fail
                go_round
                case rel => exact ⟨1, by omega, rfl, HN, hM2⟩
                case measure => simp [intOf]; omega
            · obtain ⟨pid, hpc, hpi⟩ := hprev h0
              have g5 : ((k : Int) - 1).toNat = k - 1 := by omega
              have g6 : decide ((0 : Int) < k) = true := decide_eq_true (by omega)
              have g7 : decide (0 < k) = true := decide_eq_true (by omega)
              have g8 : (0 : Int) ≤ (k : Int) - 1 := by omega
              have g9 : (k : Int) - 1 < es.length := by omega
              have hpW := cell_kept (fun hl => hba.block b hl) hpc
              by_cases hless : pid < xi
              · have gA : decide (xi ≤ pid) = false := decide_eq_false (by omega)
                have hAt : edAt ns es k = (t1 && t2) := by unfold edAt; rw [HS.out, hq, hpi, HI.out, HD.out.1, HD.out.2, ht1, ht2, decide_eq_true hless]; simp
                clear hprev hI2 hq ht1 ht2
                cases t1
                · have HF : Hid (gOk ⟨ns, es⟩ = false) := Lib.hid (by rw [HR.out, allN_no (p := edAt ns es) hlt (hAt.trans (by simp))]; simp)
                  have k0 := hM.g1
                  go_wp2_with fail
                  rw [hbxe] at x0 x1 x2 x3 x4
                  generalize wr.alloc (.cells #[.int .i64 xi, .string xt, .int .i64 xs, .int .i64 xd, .slice l2 xf d2] 122) = W at hM1 x0 x1 x2 x3 x4 hffW hpW ⊢
                  clear hba k0 hc hct hcs hcd hcf
                  refine region_ext (by kernel_rfl) (by kernel_rfl) ?_
                  have y0 := Ext.cell x0
                  have y1 := Ext.cell x1
                  have y2 := Ext.cell x2
                  have y3 := Ext.cell x3
                  have y4 := Ext.cell x4
                  have yg := Ext.cell hM1.g1
                  have yp := Ext.cell hpW
                  have yl1 := fun u : Ext W => look83 (hM1.step u.below).map hIs hT1
                  have yl2 := fun u : Ext W => look83 (hM1.step u.below).map hId hT2
                  simp only [if_true, Bool.false_eq_true, if_false] at yl1 yl2
                  have hEW := hE.below hM1.below
                  repeat (first | go_big_quiet_skip | (go_big_quiet_want; go_big_quiet_op; first | go_big_quiet_on | (refine ⟨_, fun u => (hek u.w (hEW.below u.below) (hffW.below EFld.kept u.below)).mono fun e w' h => ⟨h.1, ⟨w', u.below.trans (h.2.mono u.below.size)⟩, rfl⟩, ?_⟩; go_big_quiet_on)))
                  refine wpQuiet_nil ?_
                  intro w2 hb2
                  clear y0 y1 y2 y3 y4 yg yp yl1 yl2 hek hEW
                  go_wp2_with fail
                  go_ret
                  exact ⟨by rw [HF.out]; rfl, hM1.below.trans (hb2.mono hM1.below.size)⟩
                cases t2
                · have HF : Hid (gOk ⟨ns, es⟩ = false) := Lib.hid (by rw [HR.out, allN_no (p := edAt ns es) hlt (hAt.trans (by simp))]; simp)
                  have k0 := hM.g1
                  go_wp2_with fail
                  rw [hbxe] at x0 x1 x2 x3 x4
                  generalize wr.alloc (.cells #[.int .i64 xi, .string xt, .int .i64 xs, .int .i64 xd, .slice l2 xf d2] 122) = W at hM1 x0 x1 x2 x3 x4 hffW hpW ⊢
                  clear hba k0 hc hct hcs hcd hcf
                  refine region_ext (by kernel_rfl) (by kernel_rfl) ?_
                  have y0 := Ext.cell x0
                  have y1 := Ext.cell x1
                  have y2 := Ext.cell x2
                  have y3 := Ext.cell x3
                  have y4 := Ext.cell x4
                  have yg := Ext.cell hM1.g1
                  have yp := Ext.cell hpW
                  have yl1 := fun u : Ext W => look83 (hM1.step u.below).map hIs hT1
                  have yl2 := fun u : Ext W => look83 (hM1.step u.below).map hId hT2
                  simp only [if_true, Bool.false_eq_true, if_false] at yl1 yl2
                  have hEW := hE.below hM1.below
                  repeat (first | go_big_quiet_skip | (go_big_quiet_want; go_big_quiet_op; first | go_big_quiet_on | (refine ⟨_, fun u => (hek u.w (hEW.below u.below) (hffW.below EFld.kept u.below)).mono fun e w' h => ⟨h.1, ⟨w', u.below.trans (h.2.mono u.below.size)⟩, rfl⟩, ?_⟩; go_big_quiet_on)))
                  refine wpQuiet_nil ?_
                  intro w2 hb2
                  clear y0 y1 y2 y3 y4 yg yp yl1 yl2 hek hEW
                  go_wp2_with fail
                  go_ret
                  exact ⟨by rw [HF.out]; rfl, hM1.below.trans (hb2.mono hM1.below.size)⟩
                · have HN : Hid (allN (edAt ns es) (k + 1) = true) := Lib.hid (allN_up HA.out hAt)
                  have k0 := hM.g1
                  go_wp2_with fail
                  rw [hbxe] at x0 x1 x2 x3 x4
                  generalize wr.alloc (.cells #[.int .i64 xi, .string xt, .int .i64 xs, .int .i64 xd, .slice l2 xf d2] 122) = W at hM1 x0 x1 x2 x3 x4 hffW hpW ⊢
                  clear hba k0 hc hct hcs hcd hcf
                  refine region_ext (by kernel_rfl) (by kernel_rfl) ?_
                  have y0 := Ext.cell x0
                  have y1 := Ext.cell x1
                  have y2 := Ext.cell x2
                  have y3 := Ext.cell x3
                  have y4 := Ext.cell x4
                  have yg := Ext.cell hM1.g1
                  have yp := Ext.cell hpW
                  have yl1 := fun u : Ext W => look83 (hM1.step u.below).map hIs hT1
                  have yl2 := fun u : Ext W => look83 (hM1.step u.below).map hId hT2
                  simp only [if_true, Bool.false_eq_true, if_false] at yl1 yl2
                  have hEW := hE.below hM1.below
                  repeat (first | go_big_quiet_skip | (go_big_quiet_want; go_big_quiet_op; first | go_big_quiet_on | (refine ⟨_, fun u => (hek u.w (hEW.below u.below) (hffW.below EFld.kept u.below)).mono fun e w' h => ⟨h.1, ⟨w', u.below.trans (h.2.mono u.below.size)⟩, rfl⟩, ?_⟩; go_big_quiet_on)))
                  refine wpQuiet_nil ?_
                  intro w2 hb2
                  clear y0 y1 y2 y3 y4 yg yp yl1 yl2 hek hEW
                  have hM2 := hM1.step hb2
                  go_wp2_with fail
                  go_round
                  case rel => exact ⟨k + 1, by omega, by go_num, HN, hM2⟩
                  case measure => simp [intOf]; omega
              · have HF : Hid (gOk ⟨ns, es⟩ = false) := Lib.hid (by rw [HR.out, allN_no (p := edAt ns es) hlt (by unfold edAt; rw [HS.out, hq, hpi, HI.out, decide_eq_false hless, decide_eq_false h0]; rfl)]; simp)
                have gA : decide (xi ≤ pid) = true := decide_eq_true (by omega)
                clear hprev hI2 hq
                have k0 := hM.g1
                go_wp2_with fail
                rw [hbxe] at x0 x1 x2 x3 x4
                generalize wr.alloc (.cells #[.int .i64 xi, .string xt, .int .i64 xs, .int .i64 xd, .slice l2 xf d2] 122) = W at hM1 x0 x1 x2 x3 x4 hffW hpW ⊢
                clear hba k0 hc hct hcs hcd hcf
                refine region_ext (by kernel_rfl) (by kernel_rfl) ?_
                have y0 := Ext.cell x0
                have y1 := Ext.cell x1
                have y2 := Ext.cell x2
                have y3 := Ext.cell x3
                have y4 := Ext.cell x4
                have yg := Ext.cell hM1.g1
                have yp := Ext.cell hpW
                have hEW := hE.below hM1.below
                repeat (first | go_big_quiet_skip | (go_big_quiet_want; go_big_quiet_op; first | go_big_quiet_on | (refine ⟨_, fun u => (hek u.w (hEW.below u.below) (hffW.below EFld.kept u.below)).mono fun e w' h => ⟨h.1, ⟨w', u.below.trans (h.2.mono u.below.size)⟩, rfl⟩, ?_⟩; go_big_quiet_on)))
                refine wpQuiet_nil ?_
                intro w2 hb2
                clear y0 y1 y2 y3 y4 yg yp hek hEW
                go_wp2_with fail
                go_ret
                exact ⟨by rw [HF.out]; rfl, hM1.below.trans (hb2.mono hM1.below.size)⟩
        · have hk3 : k = es.length := by omega
          subst hk3
          have g5 : decide ((es.length : Int) < es.length) = false := decide_eq_false (by omega)
          go_wp2
          go_ret
          exact ⟨by rw [HR.out, hRN.out, HA.out]; rfl, hM.below⟩
end Go.Proofs.YtllhimeffkefiaaGreatDoor
