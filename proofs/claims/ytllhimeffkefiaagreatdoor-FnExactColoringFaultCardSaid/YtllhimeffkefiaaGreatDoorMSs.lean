/- Texts of one proof, joined in their order: each bears its own word of what it holds and on what condition. -/
import Derived.Test.YtllhimeffkefiaaGreatDoorMI
set_option linter.unusedVariables false
set_option linter.unusedSimpArgs false
/- The specification's test of graphs: it is impl's. Condition: none. -/
set_option linter.unusedVariables false
set_option linter.unusedSimpArgs false
namespace Go.Proofs.YtllhimeffkefiaaGreatDoor
open Go.RowKit Go.Sort

def faultN (b : Bool) : Int := if b then 0 else 1
theorem snode_is (w : World) (S : Nat → Prop) (x : Nd) (a1 a2 : Option Addr) (c1 c2 : Nat) (b : Bool) (hb : ndB x = b) (h1 : RStr w S (.slice a1 x.labels.length c1) x.labels) (h2 : RFld w S (.slice a2 x.fields.length c2) x.fields) :
    Calls Tryz.prog 69 #[.agg #[.int .i64 x.id, .slice a1 x.labels.length c1, .slice a2 x.fields.length c2]] w (BoolB b w) := hb ▸ snode_any w S x a1 a2 c1 c2 h1 h2
theorem sedge_is (w : World) (S : Nat → Prop) (x : Ed) (a2 : Option Addr) (c2 : Nat) (b : Bool) (hb : edB x = b) (h2 : RFld w S (.slice a2 x.fields.length c2) x.fields) :
    Calls Tryz.prog 70 #[.agg #[.int .i64 x.id, .string x.type, .int .i64 x.src, .int .i64 x.dst, .slice a2 x.fields.length c2]] w (BoolB b w) := hb ▸ sedge_any w S x a2 c2 h2

set_option maxHeartbeats 1500000 in
set_option maxRecDepth 100000 in
theorem graphFault_any (w : World) (S : Nat → Prop) (v : Value) (g : Gr) (h : RGr w S v g) : Calls Tryz.prog 35 #[v] w (IntB (faultN (gOk g)) w) := by
  obtain ⟨v1, v2, rfl, h1, h2⟩ := h
  obtain ⟨ns, es⟩ := g
  obtain ⟨a1, c1, rfl⟩ := h1.shape
  obtain ⟨a2, c2, rfl⟩ := h2.shape
  simp only at h1 h2 ⊢
  have hl1 := h1.len
  have hl2 := h2.len
  have hl1' : (ns.length : Int) ≤ 9223372036854775807 := by omega
  have hl2' : (es.length : Int) ≤ 9223372036854775807 := by omega
  by_cases hn : ns.length ≤ 200
  case neg =>
    have HF : Hid (gOk ⟨ns, es⟩ = false) := Lib.hid (by unfold gOk; simp only; rw [decide_eq_false hn]; rfl)
    have g1 : decide ((200 : Int) < ns.length) = true := decide_eq_true (by omega)
    have g2 : decide (200 < ns.length) = true := decide_eq_true (by omega)
    go_enter Tryz.func35, Tryz.ntmps35
    go_wp2
    go_ret
    exact ⟨by rw [HF.out]; rfl, (Below.refl _ w).alloc (Nat.le_refl _) _⟩
  by_cases he : es.length ≤ 400
  case neg =>
    have HF : Hid (gOk ⟨ns, es⟩ = false) := Lib.hid (by unfold gOk; simp only; rw [decide_eq_false he]; simp)
    have g1 : decide ((200 : Int) < ns.length) = false := decide_eq_false (by omega)
    have g2 : decide (200 < ns.length) = false := decide_eq_false (by omega)
    have g3 : decide ((400 : Int) < es.length) = true := decide_eq_true (by omega)
    have g4 : decide (400 < es.length) = true := decide_eq_true (by omega)
    go_enter Tryz.func35, Tryz.ntmps35
    go_wp2
    go_ret
    exact ⟨by rw [HF.out]; rfl, (Below.refl _ w).alloc (Nat.le_refl _) _⟩
  have HR : Hid (gOk ⟨ns, es⟩ = (allN (ndAt ns) ns.length && allN (edAt ns es) es.length)) := Lib.hid (by unfold gOk; simp only; rw [decide_eq_true hn, decide_eq_true he]; rfl)
  have g1 : decide ((200 : Int) < ns.length) = false := decide_eq_false (by omega)
  have g2 : decide (200 < ns.length) = false := decide_eq_false (by omega)
  have g3 : decide ((400 : Int) < es.length) = false := decide_eq_false (by omega)
  have g4 : decide (400 < es.length) = false := decide_eq_false (by omega)
  have hn' : (ns.length : Int) ≤ 200 := by omega
  have he' : (es.length : Int) ≤ 400 := by omega
  have hba := (Below.refl _ w).alloc (Nat.le_refl _) (.cells #[.slice a1 ns.length c1, .slice a2 es.length c2] 36)
  obtain ⟨bg, hbg⟩ : ∃ bg, w.heap.size = bg := ⟨_, rfl⟩
  have hg0 : (w.alloc (.cells #[.slice a1 ns.length c1, .slice a2 es.length c2] 36)).cell? ⟨bg, 0, none⟩ = some (.slice a1 ns.length c1) := by rw [← hbg, World.cell?_alloc_mark]; rfl
  have hg1 : (w.alloc (.cells #[.slice a1 ns.length c1, .slice a2 es.length c2] 36)).cell? ⟨bg, 1, none⟩ = some (.slice a2 es.length c2) := by rw [← hbg, World.cell?_alloc_mark]; rfl
  have k1 := h1.below ENd.kept hba
  have k2 := h2.below EEd.kept hba
  go_enter Tryz.func35, Tryz.ntmps35
  go_wp2
  generalize w.alloc (.cells #[.slice a1 ns.length c1, .slice a2 es.length c2] 36) = W0 at hg0 hg1 hba k1 k2 ⊢
  go_loopw [3] (fun i wr => ∃ k : Nat, k ≤ ns.length ∧ i = .int .i64 k ∧ Hid (allN (ndAt ns) k = true) ∧ Below W0.heap.size W0 wr) (fun i wr => ns.length - (intOf i).toNat)
  case atStart => exact ⟨0, by omega, rfl, Lib.hid rfl, Below.refl _ _⟩
  case round =>
    obtain ⟨k, hk, rfl, HA, hb⟩ := hrel
    have hk2 : (k : Int) ≤ ns.length := by omega
    have q0 := cell_kept (fun hl => hb.block bg hl) hg0
    have q1 := cell_kept (fun hl => hb.block bg hl) hg1
    have hbw := hba.trans (hb.mono hba.size)
    by_cases hlt : k < ns.length
    · have f0 : decide ((k : Int) < ns.length) = true := decide_eq_true (by omega)
      have f0' : decide (k < ns.length) = true := decide_eq_true hlt
      have hr := k1.below ENd.kept hb
      obtain ⟨b, o, l1, d1, l2, d2, rfl, hS0, hc, hcl, hcf, hll, hff⟩ := RNd.at hr hlt
      have hlt2 : (k : Int) < ns.length := by omega
      obtain ⟨x, hx⟩ : ∃ x, ns[k] = x := ⟨_, rfl⟩
      rw [hx] at hc hcl hcf hll hff
      have HS : Hid (ns.getD k n0 = x) := Lib.hid (by rw [getD_eq hlt, hx])
      obtain ⟨xi, hxi⟩ : ∃ xi, x.id = xi := ⟨_, rfl⟩
      obtain ⟨xl, hxl⟩ : ∃ xl, x.labels.length = xl := ⟨_, rfl⟩
      obtain ⟨xf, hxf⟩ : ∃ xf, x.fields.length = xf := ⟨_, rfl⟩
      obtain ⟨q1', hq⟩ : ∃ q, ndB x = q := ⟨_, rfl⟩
      have hnk : ∀ (u : World), RStr u S (.slice l1 xl d1) x.labels → RFld u S (.slice l2 xf d2) x.fields → Calls Tryz.prog 69 #[.agg #[.int .i64 xi, .slice l1 xl d1, .slice l2 xf d2]] u (BoolB q1' u) := fun u r1 r2 => by
        rw [← hxi, ← hxl, ← hxf] at *
        exact snode_is u S x l1 l2 d1 d2 q1' hq r1 r2
      rw [hxi] at hc
      rw [hxl] at hcl hll
      rw [hxf] at hcf hff
      have HI : Hid (x.id = xi) := Lib.hid hxi
      clear hx hxi hxl hxf
      have hprev : k ≠ 0 → ∃ pid, wr.cell? ⟨b, o + (k - 1) * 3, none⟩ = some (.int .i64 pid) ∧ (ns.getD (k - 1) n0).id = pid := fun h0 => by
        obtain ⟨b', o', _, _, _, _, hab, _, hc', _⟩ := RNd.at hr (k := k - 1) (by omega)
        cases hab
        exact ⟨_, hc', by rw [getD_eq (by omega)]⟩
      cases q1' with
      | false =>
        have HF : Hid (gOk ⟨ns, es⟩ = false) := Lib.hid (by rw [HR.out, allN_no hlt (by unfold ndAt; rw [HS.out, hq]; rfl)]; rfl)
        clear hprev hq
        go_upto_region 6 with fail
        refine region_ext (by kernel_rfl) (by kernel_rfl) ?_
        have y0 := Ext.cell hc
        have y1 := Ext.cell hcl
        have y2 := Ext.cell hcf
        have yg := Ext.cell q0
        repeat (first | go_big_quiet_skip | (go_big_quiet_want; go_big_quiet_op; first | go_big_quiet_on | (refine ⟨_, fun u => (hnk u.w (hll.below EStr.kept u.below) (hff.below EFld.kept u.below)).mono fun e w' h => ⟨h.1, ⟨w', u.below.trans (h.2.mono u.below.size)⟩, rfl⟩, ?_⟩; go_big_quiet_on)))
        refine wpQuiet_nil ?_
        intro w2 hb2
        clear y0 y1 y2 yg hnk
        go_wp2_with fail
        go_ret
        exact ⟨by rw [HF.out]; rfl, hbw.trans (hb2.mono hbw.size)⟩
      | true =>
        by_cases h0 : k = 0
        · subst h0
          have HN : Hid (allN (ndAt ns) 1 = true) := Lib.hid (allN_up HA.out (by unfold ndAt; rw [HS.out, hq]; rfl))
          clear hprev hq
          simp only [Nat.zero_mul, Nat.add_zero] at hc hcl hcf
          go_upto_region 6 with fail
          refine region_ext (by kernel_rfl) (by kernel_rfl) ?_
          have y0 := Ext.cell hc
          have y1 := Ext.cell hcl
          have y2 := Ext.cell hcf
          have yg := Ext.cell q0
          repeat (first | go_big_quiet_skip | (go_big_quiet_want; go_big_quiet_op; first | go_big_quiet_on | (refine ⟨_, fun u => (hnk u.w (hll.below EStr.kept u.below) (hff.below EFld.kept u.below)).mono fun e w' h => ⟨h.1, ⟨w', u.below.trans (h.2.mono u.below.size)⟩, rfl⟩, ?_⟩; go_big_quiet_on)))
          refine wpQuiet_nil ?_
          intro w2 hb2
          clear y0 y1 y2 yg hnk
          go_wp2_with fail
          go_round
          case rel => exact ⟨1, by omega, rfl, HN, hb.trans (hb2.mono hb.size)⟩
          case measure => simp [intOf]; omega
        · obtain ⟨pid, hpc, hpi⟩ := hprev h0
          have g5 : ((k : Int) - 1).toNat = k - 1 := by omega
          have g6 : decide ((0 : Int) < k) = true := decide_eq_true (by omega)
          have g7 : decide (0 < k) = true := decide_eq_true (by omega)
          have g8 : (0 : Int) ≤ (k : Int) - 1 := by omega
          have g9 : (k : Int) - 1 < ns.length := by omega
          by_cases hless : pid < xi
          · have HN : Hid (allN (ndAt ns) (k + 1) = true) := Lib.hid (allN_up HA.out (by unfold ndAt; rw [HS.out, hq, hpi, HI.out, decide_eq_true hless]; simp))
            have gA : decide (xi ≤ pid) = false := decide_eq_false (by omega)
            clear hprev hq
            go_upto_region 6 with fail
            refine region_ext (by kernel_rfl) (by kernel_rfl) ?_
            have y0 := Ext.cell hc
            have y1 := Ext.cell hcl
            have y2 := Ext.cell hcf
            have yg := Ext.cell q0
            have yp := Ext.cell hpc
            repeat (first | go_big_quiet_skip | (go_big_quiet_want; go_big_quiet_op; first | go_big_quiet_on | (refine ⟨_, fun u => (hnk u.w (hll.below EStr.kept u.below) (hff.below EFld.kept u.below)).mono fun e w' h => ⟨h.1, ⟨w', u.below.trans (h.2.mono u.below.size)⟩, rfl⟩, ?_⟩; go_big_quiet_on)))
            refine wpQuiet_nil ?_
            intro w2 hb2
            clear y0 y1 y2 yg yp hnk
            go_wp2_with fail
            go_round
            case rel => exact ⟨k + 1, by omega, by go_num, HN, hb.trans (hb2.mono hb.size)⟩
            case measure => simp [intOf]; omega
          · have HF : Hid (gOk ⟨ns, es⟩ = false) := Lib.hid (by rw [HR.out, allN_no hlt (by unfold ndAt; rw [HS.out, hq, hpi, HI.out, decide_eq_false hless, decide_eq_false h0]; rfl)]; rfl)
            have gA : decide (xi ≤ pid) = true := decide_eq_true (by omega)
            clear hprev hq
            go_upto_region 6 with fail
            refine region_ext (by kernel_rfl) (by kernel_rfl) ?_
            have y0 := Ext.cell hc
            have y1 := Ext.cell hcl
            have y2 := Ext.cell hcf
            have yg := Ext.cell q0
            have yp := Ext.cell hpc
            repeat (first | go_big_quiet_skip | (go_big_quiet_want; go_big_quiet_op; first | go_big_quiet_on | (refine ⟨_, fun u => (hnk u.w (hll.below EStr.kept u.below) (hff.below EFld.kept u.below)).mono fun e w' h => ⟨h.1, ⟨w', u.below.trans (h.2.mono u.below.size)⟩, rfl⟩, ?_⟩; go_big_quiet_on)))
            refine wpQuiet_nil ?_
            intro w2 hb2
            clear y0 y1 y2 yg yp hnk
            go_wp2_with fail
            go_ret
            exact ⟨by rw [HF.out]; rfl, hbw.trans (hb2.mono hbw.size)⟩
    · have hk3 : k = ns.length := by omega
      subst hk3
      have g5 : decide ((ns.length : Int) < ns.length) = false := decide_eq_false (by omega)
      have hRN : Hid (allN (ndAt ns) ns.length = true) := HA
      go_wp2
      clear q0 q1 hk hk2 hlt HA g5
      have hb9 := hb
      clear hbw
      go_loopw [4] (fun i wr => ∃ k : Nat, k ≤ es.length ∧ i = .int .i64 k ∧ Hid (allN (edAt ns es) k = true) ∧ Below W0.heap.size W0 wr) (fun i wr => es.length - (intOf i).toNat)
      case atStart => exact ⟨0, by omega, rfl, Lib.hid rfl, hb9⟩
      case round =>
        clear hb9 hb
        obtain ⟨k, hk, rfl, HA, hb⟩ := hrel
        have hk2 : (k : Int) ≤ es.length := by omega
        have q0 := cell_kept (fun hl => hb.block bg hl) hg0
        have q1 := cell_kept (fun hl => hb.block bg hl) hg1
        have hbw := hba.trans (hb.mono hba.size)
        by_cases hlt : k < es.length
        · have f0 : decide ((k : Int) < es.length) = true := decide_eq_true (by omega)
          have f0' : decide (k < es.length) = true := decide_eq_true hlt
          have hr := k2.below EEd.kept hb
          have hrn := k1.below ENd.kept hb
          obtain ⟨b, o, l2, d2, rfl, hS0, hc, hct, hcs, hcd, hcf, hff, hzt⟩ := REd.at hr hlt
          have hlt2 : (k : Int) < es.length := by omega
          obtain ⟨x, hx⟩ : ∃ x, es[k] = x := ⟨_, rfl⟩
          rw [hx] at hc hct hcs hcd hcf hff hzt
          have HS : Hid (es.getD k d0 = x) := Lib.hid (by rw [getD_eq hlt, hx])
          obtain ⟨xi, hxi⟩ : ∃ xi, x.id = xi := ⟨_, rfl⟩
          obtain ⟨xt, hxt⟩ : ∃ xt, x.type = xt := ⟨_, rfl⟩
          obtain ⟨xs, hxs⟩ : ∃ xs, x.src = xs := ⟨_, rfl⟩
          obtain ⟨xd, hxd⟩ : ∃ xd, x.dst = xd := ⟨_, rfl⟩
          obtain ⟨xf, hxf⟩ : ∃ xf, x.fields.length = xf := ⟨_, rfl⟩
          obtain ⟨q1', hq⟩ : ∃ q, edB x = q := ⟨_, rfl⟩
          have hek : ∀ (u : World), RFld u S (.slice l2 xf d2) x.fields → Calls Tryz.prog 70 #[.agg #[.int .i64 xi, .string xt, .int .i64 xs, .int .i64 xd, .slice l2 xf d2]] u (BoolB q1' u) := fun u r2 => by
            rw [← hxi, ← hxt, ← hxs, ← hxd, ← hxf] at *
            exact sedge_is u S x l2 d2 q1' hq r2
          rw [hxi] at hc
          rw [hxt] at hct hzt
          rw [hxs] at hcs
          rw [hxd] at hcd
          rw [hxf] at hcf hff
          have HI : Hid (x.id = xi) := Lib.hid hxi
          have HD : Hid (x.src = xs ∧ x.dst = xd) := Lib.hid ⟨hxs, hxd⟩
          clear hx hxi hxt hxs hxd hxf
          have hprev : k ≠ 0 → ∃ pid, wr.cell? ⟨b, o + (k - 1) * 5, none⟩ = some (.int .i64 pid) ∧ (es.getD (k - 1) d0).id = pid := fun h0 => by
            obtain ⟨b', o', _, _, hab, _, hc', _⟩ := REd.at hr (k := k - 1) (by omega)
            cases hab
            exact ⟨_, hc', by rw [getD_eq (by omega)]⟩
          have hb3 := (Below.refl _ wr).alloc (Nat.le_refl _) (.cells #[.int .i64 xi, .string xt, .int .i64 xs, .int .i64 xd, .slice l2 xf d2] 122)
          have x0 : (wr.alloc (.cells #[.int .i64 xi, .string xt, .int .i64 xs, .int .i64 xd, .slice l2 xf d2] 122)).cell? ⟨wr.heap.size, 0, none⟩ = some (.int .i64 xi) := by rw [World.cell?_alloc_mark]; rfl
          have x1 : (wr.alloc (.cells #[.int .i64 xi, .string xt, .int .i64 xs, .int .i64 xd, .slice l2 xf d2] 122)).cell? ⟨wr.heap.size, 1, none⟩ = some (.string xt) := by rw [World.cell?_alloc_mark]; rfl
          have x2 : (wr.alloc (.cells #[.int .i64 xi, .string xt, .int .i64 xs, .int .i64 xd, .slice l2 xf d2] 122)).cell? ⟨wr.heap.size, 2, none⟩ = some (.int .i64 xs) := by rw [World.cell?_alloc_mark]; rfl
          have x3 : (wr.alloc (.cells #[.int .i64 xi, .string xt, .int .i64 xs, .int .i64 xd, .slice l2 xf d2] 122)).cell? ⟨wr.heap.size, 3, none⟩ = some (.int .i64 xd) := by rw [World.cell?_alloc_mark]; rfl
          have x4 : (wr.alloc (.cells #[.int .i64 xi, .string xt, .int .i64 xs, .int .i64 xd, .slice l2 xf d2] 122)).cell? ⟨wr.heap.size, 4, none⟩ = some (.slice l2 xf d2) := by rw [World.cell?_alloc_mark]; rfl
          have x5 := cell_kept (fun hl => hb3.block bg hl) q0
          have x6 := cell_kept (fun hl => hb3.block bg hl) q1
          have hffW := hff.below EFld.kept hb3
          have hrnW := hrn.below ENd.kept hb3
          obtain ⟨bx, hbxe⟩ : ∃ bx, wr.heap.size = bx := ⟨_, rfl⟩
          cases q1' with
          | false =>
            have HF : Hid (gOk ⟨ns, es⟩ = false) := Lib.hid (by rw [HR.out, allN_no (p := edAt ns es) hlt (by unfold edAt; rw [HS.out, hq]; rfl)]; simp)
            clear hprev hq
            go_upto_region 12 with fail
            rw [hbxe] at x0 x1 x2 x3 x4
            generalize wr.alloc (.cells #[.int .i64 xi, .string xt, .int .i64 xs, .int .i64 xd, .slice l2 xf d2] 122) = W at hb3 x0 x1 x2 x3 x4 x5 x6 hffW hrnW ⊢
            refine region_ext (by kernel_rfl) (by kernel_rfl) ?_
            have y0 := Ext.cell x0
            have y1 := Ext.cell x1
            have y2 := Ext.cell x2
            have y3 := Ext.cell x3
            have y4 := Ext.cell x4
            have y5 := Ext.cell x5
            have y6 := Ext.cell x6
            repeat (go_big_quiet_step (first
              | (go_at_call 70; rename_i u; exact (hek u.w (hffW.below EFld.kept u.below)).mono fun e w' h => ⟨h.1, ⟨w', u.below.trans (h.2.mono u.below.size)⟩, rfl⟩)
              | (go_at_call 38; rename_i u; exact (hnA _ u.w (hrnW.below ENd.kept u.below)).mono fun e w' h => ⟨h.1, ⟨w', u.below.trans (h.2.mono u.below.size)⟩, rfl⟩)))
            refine wpQuiet_nil ?_
            intro w2 hb2
            clear y0 y1 y2 y3 y4 y5 y6 hek
            go_wp2_with fail
            go_ret
            exact ⟨by rw [HF.out]; rfl, hbw.trans ((hb3.trans (hb2.mono hb3.size)).mono hbw.size)⟩
          | true =>
            obtain ⟨t1, ht1⟩ : ∃ t, thr ns xs = t := ⟨_, rfl⟩
            obtain ⟨t2, ht2⟩ : ∃ t, thr ns xd = t := ⟨_, rfl⟩
            have hT1 : decide (posN ns xs 0 < 0) = !t1 := by rw [← ht1]; exact posN_thr ns xs 0
            have hT2 : decide (posN ns xd 0 < 0) = !t2 := by rw [← ht2]; exact posN_thr ns xd 0
            have hnA : ∀ (id : Int) (u : World), RNd u S (.slice a1 ns.length c1) ns → Calls Tryz.prog 38 #[.agg #[.slice a1 ns.length c1, .slice (some ⟨b, o, none⟩) es.length c2], .int .i64 id] u (IntB (posN ns id 0) u) := fun id u r => snodeAt_any u S a1 (some ⟨b, o, none⟩) es.length c1 c2 ns id r
            by_cases h0 : k = 0
            · subst h0
              have hAt : edAt ns es 0 = (t1 && t2) := by unfold edAt; rw [HS.out, hq, HD.out.1, HD.out.2, ht1, ht2]; rfl
              clear hprev hq ht1 ht2
              simp only [Nat.zero_mul, Nat.add_zero] at hc hct hcs hcd hcf
              cases t1
              · have HF : Hid (gOk ⟨ns, es⟩ = false) := Lib.hid (by rw [HR.out, allN_no (p := edAt ns es) hlt (hAt.trans (by simp))]; simp)
                simp only [Bool.not_true, Bool.not_false] at hT1 hT2
                go_upto_region 12 with fail
                rw [hbxe] at x0 x1 x2 x3 x4
                generalize wr.alloc (.cells #[.int .i64 xi, .string xt, .int .i64 xs, .int .i64 xd, .slice l2 xf d2] 122) = W at hb3 x0 x1 x2 x3 x4 x5 x6 hffW hrnW ⊢
                refine region_ext (by kernel_rfl) (by kernel_rfl) ?_
                have y0 := Ext.cell x0
                have y1 := Ext.cell x1
                have y2 := Ext.cell x2
                have y3 := Ext.cell x3
                have y4 := Ext.cell x4
                have y5 := Ext.cell x5
                have y6 := Ext.cell x6
                repeat (go_big_quiet_step (first
                  | (go_at_call 70; rename_i u; exact (hek u.w (hffW.below EFld.kept u.below)).mono fun e w' h => ⟨h.1, ⟨w', u.below.trans (h.2.mono u.below.size)⟩, rfl⟩)
                  | (go_at_call 38; rename_i u; exact (hnA _ u.w (hrnW.below ENd.kept u.below)).mono fun e w' h => ⟨h.1, ⟨w', u.below.trans (h.2.mono u.below.size)⟩, rfl⟩)))
                refine wpQuiet_nil ?_
                intro w2 hb2
                clear y0 y1 y2 y3 y4 y5 y6 hek
                go_wp2_with fail
                go_ret
                exact ⟨by rw [HF.out]; rfl, hbw.trans ((hb3.trans (hb2.mono hb3.size)).mono hbw.size)⟩
              cases t2
              · have HF : Hid (gOk ⟨ns, es⟩ = false) := Lib.hid (by rw [HR.out, allN_no (p := edAt ns es) hlt (hAt.trans (by simp))]; simp)
                simp only [Bool.not_true, Bool.not_false] at hT1 hT2
                go_upto_region 12 with fail
                rw [hbxe] at x0 x1 x2 x3 x4
                generalize wr.alloc (.cells #[.int .i64 xi, .string xt, .int .i64 xs, .int .i64 xd, .slice l2 xf d2] 122) = W at hb3 x0 x1 x2 x3 x4 x5 x6 hffW hrnW ⊢
                refine region_ext (by kernel_rfl) (by kernel_rfl) ?_
                have y0 := Ext.cell x0
                have y1 := Ext.cell x1
                have y2 := Ext.cell x2
                have y3 := Ext.cell x3
                have y4 := Ext.cell x4
                have y5 := Ext.cell x5
                have y6 := Ext.cell x6
                repeat (go_big_quiet_step (first
                  | (go_at_call 70; rename_i u; exact (hek u.w (hffW.below EFld.kept u.below)).mono fun e w' h => ⟨h.1, ⟨w', u.below.trans (h.2.mono u.below.size)⟩, rfl⟩)
                  | (go_at_call 38; rename_i u; exact (hnA _ u.w (hrnW.below ENd.kept u.below)).mono fun e w' h => ⟨h.1, ⟨w', u.below.trans (h.2.mono u.below.size)⟩, rfl⟩)))
                refine wpQuiet_nil ?_
                intro w2 hb2
                clear y0 y1 y2 y3 y4 y5 y6 hek
                go_wp2_with fail
                go_ret
                exact ⟨by rw [HF.out]; rfl, hbw.trans ((hb3.trans (hb2.mono hb3.size)).mono hbw.size)⟩
              · have HN : Hid (allN (edAt ns es) 1 = true) := Lib.hid (allN_up HA.out hAt)
                simp only [Bool.not_true] at hT1 hT2
                go_upto_region 12 with fail
                rw [hbxe] at x0 x1 x2 x3 x4
                generalize wr.alloc (.cells #[.int .i64 xi, .string xt, .int .i64 xs, .int .i64 xd, .slice l2 xf d2] 122) = W at hb3 x0 x1 x2 x3 x4 x5 x6 hffW hrnW ⊢
                refine region_ext (by kernel_rfl) (by kernel_rfl) ?_
                have y0 := Ext.cell x0
                have y1 := Ext.cell x1
                have y2 := Ext.cell x2
                have y3 := Ext.cell x3
                have y4 := Ext.cell x4
                have y5 := Ext.cell x5
                have y6 := Ext.cell x6
                repeat (go_big_quiet_step (first
                  | (go_at_call 70; rename_i u; exact (hek u.w (hffW.below EFld.kept u.below)).mono fun e w' h => ⟨h.1, ⟨w', u.below.trans (h.2.mono u.below.size)⟩, rfl⟩)
                  | (go_at_call 38; rename_i u; exact (hnA _ u.w (hrnW.below ENd.kept u.below)).mono fun e w' h => ⟨h.1, ⟨w', u.below.trans (h.2.mono u.below.size)⟩, rfl⟩)))
                refine wpQuiet_nil ?_
                intro w2 hb2
                clear y0 y1 y2 y3 y4 y5 y6 hek
                go_wp2_with fail
                go_round
                case rel => exact ⟨1, by omega, rfl, HN, hb.trans ((hb3.trans (hb2.mono hb3.size)).mono hb.size)⟩
                case measure => simp [intOf]; omega
            · obtain ⟨pid, hpc, hpi⟩ := hprev h0
              have g5 : ((k : Int) - 1).toNat = k - 1 := by omega
              have g6 : decide ((0 : Int) < k) = true := decide_eq_true (by omega)
              have g7 : decide (0 < k) = true := decide_eq_true (by omega)
              have g8 : (0 : Int) ≤ (k : Int) - 1 := by omega
              have g9 : (k : Int) - 1 < es.length := by omega
              have hpW := cell_kept (fun hl => hb3.block b hl) hpc
              by_cases hless : pid < xi
              · have gA : decide (xi ≤ pid) = false := decide_eq_false (by omega)
                have hAt : edAt ns es k = (t1 && t2) := by unfold edAt; rw [HS.out, hq, hpi, HI.out, HD.out.1, HD.out.2, ht1, ht2, decide_eq_true hless]; simp
                clear hprev hq ht1 ht2
                cases t1
                · have HF : Hid (gOk ⟨ns, es⟩ = false) := Lib.hid (by rw [HR.out, allN_no (p := edAt ns es) hlt (hAt.trans (by simp))]; simp)
                  simp only [Bool.not_true, Bool.not_false] at hT1 hT2
                  go_upto_region 12 with fail
                  rw [hbxe] at x0 x1 x2 x3 x4
                  generalize wr.alloc (.cells #[.int .i64 xi, .string xt, .int .i64 xs, .int .i64 xd, .slice l2 xf d2] 122) = W at hb3 x0 x1 x2 x3 x4 x5 x6 hffW hrnW hpW ⊢
                  refine region_ext (by kernel_rfl) (by kernel_rfl) ?_
                  have y0 := Ext.cell x0
                  have y1 := Ext.cell x1
                  have y2 := Ext.cell x2
                  have y3 := Ext.cell x3
                  have y4 := Ext.cell x4
                  have y5 := Ext.cell x5
                  have y6 := Ext.cell x6
                  have yp := Ext.cell hpW
                  repeat (go_big_quiet_step (first
                    | (go_at_call 70; rename_i u; exact (hek u.w (hffW.below EFld.kept u.below)).mono fun e w' h => ⟨h.1, ⟨w', u.below.trans (h.2.mono u.below.size)⟩, rfl⟩)
                    | (go_at_call 38; rename_i u; exact (hnA _ u.w (hrnW.below ENd.kept u.below)).mono fun e w' h => ⟨h.1, ⟨w', u.below.trans (h.2.mono u.below.size)⟩, rfl⟩)))
                  refine wpQuiet_nil ?_
                  intro w2 hb2
                  clear y0 y1 y2 y3 y4 y5 y6 yp hek
                  go_wp2_with fail
                  go_ret
                  exact ⟨by rw [HF.out]; rfl, hbw.trans ((hb3.trans (hb2.mono hb3.size)).mono hbw.size)⟩
                cases t2
                · have HF : Hid (gOk ⟨ns, es⟩ = false) := Lib.hid (by rw [HR.out, allN_no (p := edAt ns es) hlt (hAt.trans (by simp))]; simp)
                  simp only [Bool.not_true, Bool.not_false] at hT1 hT2
                  go_upto_region 12 with fail
                  rw [hbxe] at x0 x1 x2 x3 x4
                  generalize wr.alloc (.cells #[.int .i64 xi, .string xt, .int .i64 xs, .int .i64 xd, .slice l2 xf d2] 122) = W at hb3 x0 x1 x2 x3 x4 x5 x6 hffW hrnW hpW ⊢
                  refine region_ext (by kernel_rfl) (by kernel_rfl) ?_
                  have y0 := Ext.cell x0
                  have y1 := Ext.cell x1
                  have y2 := Ext.cell x2
                  have y3 := Ext.cell x3
                  have y4 := Ext.cell x4
                  have y5 := Ext.cell x5
                  have y6 := Ext.cell x6
                  have yp := Ext.cell hpW
                  repeat (go_big_quiet_step (first
                    | (go_at_call 70; rename_i u; exact (hek u.w (hffW.below EFld.kept u.below)).mono fun e w' h => ⟨h.1, ⟨w', u.below.trans (h.2.mono u.below.size)⟩, rfl⟩)
                    | (go_at_call 38; rename_i u; exact (hnA _ u.w (hrnW.below ENd.kept u.below)).mono fun e w' h => ⟨h.1, ⟨w', u.below.trans (h.2.mono u.below.size)⟩, rfl⟩)))
                  refine wpQuiet_nil ?_
                  intro w2 hb2
                  clear y0 y1 y2 y3 y4 y5 y6 yp hek
                  go_wp2_with fail
                  go_ret
                  exact ⟨by rw [HF.out]; rfl, hbw.trans ((hb3.trans (hb2.mono hb3.size)).mono hbw.size)⟩
                · have HN : Hid (allN (edAt ns es) (k + 1) = true) := Lib.hid (allN_up HA.out hAt)
                  simp only [Bool.not_true] at hT1 hT2
                  go_upto_region 12 with fail
                  rw [hbxe] at x0 x1 x2 x3 x4
                  generalize wr.alloc (.cells #[.int .i64 xi, .string xt, .int .i64 xs, .int .i64 xd, .slice l2 xf d2] 122) = W at hb3 x0 x1 x2 x3 x4 x5 x6 hffW hrnW hpW ⊢
                  refine region_ext (by kernel_rfl) (by kernel_rfl) ?_
                  have y0 := Ext.cell x0
                  have y1 := Ext.cell x1
                  have y2 := Ext.cell x2
                  have y3 := Ext.cell x3
                  have y4 := Ext.cell x4
                  have y5 := Ext.cell x5
                  have y6 := Ext.cell x6
                  have yp := Ext.cell hpW
                  repeat (go_big_quiet_step (first
                    | (go_at_call 70; rename_i u; exact (hek u.w (hffW.below EFld.kept u.below)).mono fun e w' h => ⟨h.1, ⟨w', u.below.trans (h.2.mono u.below.size)⟩, rfl⟩)
                    | (go_at_call 38; rename_i u; exact (hnA _ u.w (hrnW.below ENd.kept u.below)).mono fun e w' h => ⟨h.1, ⟨w', u.below.trans (h.2.mono u.below.size)⟩, rfl⟩)))
                  refine wpQuiet_nil ?_
                  intro w2 hb2
                  clear y0 y1 y2 y3 y4 y5 y6 yp hek
                  go_wp2_with fail
                  go_round
                  case rel => exact ⟨k + 1, by omega, by go_num, HN, hb.trans ((hb3.trans (hb2.mono hb3.size)).mono hb.size)⟩
                  case measure => simp [intOf]; omega
              · have HF : Hid (gOk ⟨ns, es⟩ = false) := Lib.hid (by rw [HR.out, allN_no (p := edAt ns es) hlt (by unfold edAt; rw [HS.out, hq, hpi, HI.out, decide_eq_false hless, decide_eq_false h0]; rfl)]; simp)
                have gA : decide (xi ≤ pid) = true := decide_eq_true (by omega)
                clear hprev hq
                go_upto_region 12 with fail
                rw [hbxe] at x0 x1 x2 x3 x4
                generalize wr.alloc (.cells #[.int .i64 xi, .string xt, .int .i64 xs, .int .i64 xd, .slice l2 xf d2] 122) = W at hb3 x0 x1 x2 x3 x4 x5 x6 hffW hrnW hpW ⊢
                refine region_ext (by kernel_rfl) (by kernel_rfl) ?_
                have y0 := Ext.cell x0
                have y1 := Ext.cell x1
                have y2 := Ext.cell x2
                have y3 := Ext.cell x3
                have y4 := Ext.cell x4
                have y5 := Ext.cell x5
                have y6 := Ext.cell x6
                have yp := Ext.cell hpW
                repeat (go_big_quiet_step (first
                  | (go_at_call 70; rename_i u; exact (hek u.w (hffW.below EFld.kept u.below)).mono fun e w' h => ⟨h.1, ⟨w', u.below.trans (h.2.mono u.below.size)⟩, rfl⟩)
                  | (go_at_call 38; rename_i u; exact (hnA _ u.w (hrnW.below ENd.kept u.below)).mono fun e w' h => ⟨h.1, ⟨w', u.below.trans (h.2.mono u.below.size)⟩, rfl⟩)))
                refine wpQuiet_nil ?_
                intro w2 hb2
                clear y0 y1 y2 y3 y4 y5 y6 yp hek
                go_wp2_with fail
                go_ret
                exact ⟨by rw [HF.out]; rfl, hbw.trans ((hb3.trans (hb2.mono hb3.size)).mono hbw.size)⟩
        · have hk3 : k = es.length := by omega
          subst hk3
          have g5 : decide ((es.length : Int) < es.length) = false := decide_eq_false (by omega)
          go_wp2
          go_ret
          exact ⟨by rw [HR.out, hRN.out, HA.out]; rfl, hbw⟩
end Go.Proofs.YtllhimeffkefiaaGreatDoor
