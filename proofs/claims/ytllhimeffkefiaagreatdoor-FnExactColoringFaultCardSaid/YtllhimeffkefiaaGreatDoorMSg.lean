/- Texts of one proof, joined in their order: each bears its own word of what it holds and on what condition. -/
import Derived.Test.YtllhimeffkefiaaGreatDoorMG
set_option linter.unusedVariables false
set_option linter.unusedSimpArgs false
/- The specification's reading of texts in quotes. Condition: texts of at most 2^20 bytes. -/
set_option linter.unusedVariables false
set_option linter.unusedSimpArgs false
namespace Go.Proofs.YtllhimeffkefiaaGreatDoor
open Go.RowKit Go.Sort

theorem Sr.grown {w : World} {r : Nat} {t : ByteArray} {j : Nat} {b : Bool} (hlt : r < w.heap.size) {W w1 : World} (h : Sr W r t j b) {row : Option Nat} (hg : W.grownBy w1 row) (hrow : ∀ k, row = some k → w.heap.size ≤ k) : Sr w1 r t j b :=
  h.same (hg.block r h.lt (fun e => by have := hrow r e.symm; omega))
def QuoS (r : Nat) (t : ByteArray) (i : Nat) (w : World) (e : Ending) (w' : World) : Prop :=
  ∃ s j, e = .returned (.string s) ∧ Sr w' r t j (quo t i []).isNone ∧ To r w w' ∧ ∀ y k, quo t i [] = some (y, k) → s = y ∧ j = k
theorem own_empty (w : World) : (w.alloc (.cells #[] 5)).ownsRow w.heap.size 5 1 (.slice (some ⟨w.heap.size, 0, none⟩) 0 0) 0 [] := by
  refine ⟨rfl, .inr ⟨w.heap.size, 0, #[], rfl, Nat.le_refl _, ?_, ?_⟩⟩
  · show (w.heap.push (.cells #[] 5))[w.heap.size]? = _
    simp
  · simp
set_option maxHeartbeats 4000000 in
set_option maxRecDepth 100000 in
theorem squoted_any (w : World) (r : Nat) (t : ByteArray) (i : Nat) (h : Sr w r t i false) : Calls Tryz.prog 150 #[.pointer (some ⟨r, 0, none⟩)] w (QuoS r t i w) := by
  have hlt := h.lt
  have hi := h.le
  have hsz := h.sz
  obtain ⟨i0, hi0, hz0, hz1, hz2⟩ := info_parts (show (Tryz.prog.info? 5).map (fun i => (i.zero, i.size, i.bytes)) = some (some (.int .u8 0), 1, 1) by kernel_rfl)
  go_enter Tryz.func150, Tryz.ntmps150
  go_wp2
  go_loopw [3] (fun v wr => ∃ (k : Nat) (acc : List UInt8), acc.length ≤ k ∧ k ≤ t.size ∧ Hid (quo t i [] = quo t k acc) ∧ Sr wr r t k false ∧ To r w wr ∧ wr.ownsRow w.heap.size 5 1 v acc.length (acc.map byteV)) (fun v wr => lefS r t wr)
  case atStart => exact ⟨i, [], Nat.zero_le _, hi, rfl, h.alloc _, To.alloc r w _, own_empty w⟩
  case round =>
    obtain ⟨k, acc, hk1, hk, HR, hrr, hwr, hor⟩ := hrel
    have k0 := hrr.c0
    have k1 := hrr.c1
    have hkt : (k : Int) ≤ t.size := by omega
    have hm2 : lefS r t wr = t.size - k := hrr.lef
    by_cases hlt2 : k < t.size
    · have hlt3 : (k : Int) + 1 ≤ t.size := by omega
      have hlt3' : (k : Int) < t.size := by omega
      have g1 : decide ((k : Int) < t.size) = true := decide_eq_true (by omega)
      obtain ⟨b, hb⟩ : ∃ b : UInt8, t[k] = b := ⟨_, rfl⟩
      have hbx : byI t k = (b.toNat : Int) := by rw [byI_eq hlt2, hb]
      have HE := Lib.hid (quo_eq t k acc)
      have HB := Lib.hid hb
      obtain ⟨x, hx⟩ : ∃ x : Int, (b.toNat : Int) = x := ⟨_, rfl⟩
      have hx' : (t[k].toNat : Int) = x := by rw [hb, hx]
      have hxb : byteV b = .int .u8 x := by rw [← hx]; rfl
      have HXI : Hid (byI t k = x) := Lib.hid (hbx.trans hx)
      clear hbx hb hx
      by_cases h34 : x = 34
      · have HF : Hid (quo t k acc = some (⟨acc.toArray⟩, k + 1)) := Lib.hid (by rw [HE.out, dif_pos hlt2, HXI.out, if_pos h34])
        subst h34
        clear HE HXI
        go_wp2_with fail
        go_big_quiet (fail)
        have hr5 := hrr.below (drewN_below wr nq)
        have hw5 := hwr.trans (To.of (drewN_below wr nq))
        have ho5 := own_to hor (To.of (r := r) (drewN_below wr nq)) hlt
        generalize wr.drewN nq = w5 at hr5 hw5 ho5 ⊢
        clear k0 k1 nq
        have k0 := hr5.c0
        have k1 := hr5.c1
        go_wp2_with fail
        go_big_quiet (fail)
        have hr6 := hr5.below (drewN_below w5 nq)
        have hw6 := hw5.trans (To.of (drewN_below w5 nq))
        have ho6 := own_to ho5 (To.of (r := r) (drewN_below w5 nq)) hlt
        generalize w5.drewN nq = w6 at hr6 hw6 ho6 ⊢
        clear k0 k1 nq
        have k0 := hr6.c0
        have k1 := hr6.c1
        have k2 := hr6.f1
        have hr7 := hr6.set (k + 1) hlt2
        have hw7 := hw6.trans (To.set r w6 1 (.int .i64 ((k + 1 : Nat))))
        have ho7 := own_to ho6 (To.set r w6 1 (.int .i64 ((k + 1 : Nat)))) hlt
        push_cast at hr7 hw7 ho7
        go_upto_region 5 with fail
        clear k0 k1 k2
        generalize w6.setCell ⟨r, 1, none⟩ (.int .i64 ((k : Int) + 1)) = w7 at hr7 hw7 ho7 ⊢
        have hzw : w.heap.size ≤ w7.heap.size := hw7.size

        have hcv := bytes_str ho7
        go_wp2_with fail
        go_ret
        exact ⟨_, _, rfl, by rw [HR.out, HF.out]; exact hr7, hw7, fun y k' hy => by rw [HR.out, HF.out] at hy; cases hy; exact ⟨rfl, rfl⟩⟩
      · have h34' : (x == 34) = false := by simpa using h34
        by_cases h32 : x < 32
        · have HF : Hid (quo t k acc = none) := Lib.hid (by rw [HE.out, dif_pos hlt2, HXI.out, if_neg h34, if_neg (by omega), if_pos h32])
          have g2 : decide (x < 32) = true := decide_eq_true h32
          clear HE HXI h34
          go_wp2_with fail
          go_big_quiet (fail)
          have hr5 := hrr.below (drewN_below wr nq)
          have hw5 := hwr.trans (To.of (drewN_below wr nq))
          have ho5 := own_to hor (To.of (r := r) (drewN_below wr nq)) hlt
          generalize wr.drewN nq = w5 at hr5 hw5 ho5 ⊢
          clear k0 k1 nq
          have k0 := hr5.c0
          have k1 := hr5.c1
          go_wp2_with fail
          go_big_quiet (fail)
          have hr6 := hr5.below (drewN_below w5 nq)
          have hw6 := hw5.trans (To.of (drewN_below w5 nq))
          have ho6 := own_to ho5 (To.of (r := r) (drewN_below w5 nq)) hlt
          generalize w5.drewN nq = w6 at hr6 hw6 ho6 ⊢
          clear k0 k1 nq
          have k0 := hr6.c0
          have k1 := hr6.c1
          have k2 := hr6.f1
          have hr7 := hr6.set (k + 1) hlt2
          have hw7 := hw6.trans (To.set r w6 1 (.int .i64 ((k + 1 : Nat))))
          have ho7 := own_to ho6 (To.set r w6 1 (.int .i64 ((k + 1 : Nat)))) hlt
          push_cast at hr7 hw7 ho7
          go_upto_region 5 with fail
          clear k0 k1 k2
          generalize w6.setCell ⟨r, 1, none⟩ (.int .i64 ((k : Int) + 1)) = w7 at hr7 hw7 ho7 ⊢
          have hzw : w.heap.size ≤ w7.heap.size := hw7.size
          have q2 := hr7.c2
          have q3 := hr7.f2
          have hr9 := hr7.flag true
          have hw9 := hw7.trans (To.set r w7 2 (.bool true))
          go_wp2_with fail
          go_ret
          exact ⟨_, _, rfl, by rw [HR.out, HF.out]; exact hr9, hw9, fun y k' hy => by rw [HR.out, HF.out] at hy; cases hy⟩

        · have g2 : decide (x < 32) = false := decide_eq_false h32
          by_cases h92 : x = 92
          · have h92' : (x == 92) = true := by simpa using h92
            by_cases hlt5 : k + 1 < t.size
            · have hlt6 : (k : Int) + 1 + 1 ≤ t.size := by omega
              have hlt7 : (k : Int) + 1 < t.size := by omega
              have g5 : decide ((t.size : Int) ≤ (k : Int) + 1) = false := decide_eq_false (by omega)
              have g6 : decide (t.size ≤ k + 1) = false := decide_eq_false (by omega)
              have g7 : ((k : Int) + 1).toNat = k + 1 := by omega
              have g8 : (0 : Int) ≤ (k : Int) + 1 := by omega
              have HE2 : Hid (quo t k acc = if byI t (k + 1) = 34 ∨ byI t (k + 1) = 92 then quo t (k + 2) (acc ++ [t[k + 1]]) else if byI t (k + 1) = 110 then quo t (k + 2) (acc ++ [10]) else none) := Lib.hid (by rw [HE.out, dif_pos hlt2, HXI.out, if_neg h34, if_pos h92, dif_pos hlt5])
              clear HE HXI h34 h92 h32
              obtain ⟨c, hc⟩ : ∃ c : UInt8, t[k + 1] = c := ⟨_, rfl⟩
              rw [hc] at HE2
              have hcy : byI t (k + 1) = (c.toNat : Int) := by rw [byI_eq hlt5, hc]
              obtain ⟨y, hy⟩ : ∃ y : Int, (c.toNat : Int) = y := ⟨_, rfl⟩
              have hy' : (t[k + 1].toNat : Int) = y := by rw [hc, hy]
              have hyc : byteV c = .int .u8 y := by rw [← hy]; rfl
              have HYI : Hid (byI t (k + 1) = y) := Lib.hid (hcy.trans hy)
              clear hcy hc hy
              rcases (show y = 34 ∨ (y ≠ 34 ∧ y = 92) ∨ (y ≠ 34 ∧ y ≠ 92 ∧ y = 110) ∨ (y ≠ 34 ∧ y ≠ 92 ∧ y ≠ 110) by omega) with y1 | ⟨y1, y2⟩ | ⟨y1, y2, y3⟩ | ⟨y1, y2, y3⟩
              · have HF : Hid (quo t k acc = quo t (k + 2) (acc ++ [c])) := Lib.hid (by rw [HE2.out, HYI.out]; exact if_pos (.inl y1))
                have y1' : (y == 34) = true := by simpa using y1
                have z1 : (y != 34) = false := by simp [bne, y1']
                have y4 : (y == 110) = false := by simp; omega
                clear HE2 y1
                go_wp2_with fail
                go_big_quiet (fail)
                have hr5 := hrr.below (drewN_below wr nq)
                have hw5 := hwr.trans (To.of (drewN_below wr nq))
                have ho5 := own_to hor (To.of (r := r) (drewN_below wr nq)) hlt
                generalize wr.drewN nq = w5 at hr5 hw5 ho5 ⊢
                clear k0 k1 nq
                have k0 := hr5.c0
                have k1 := hr5.c1
                go_wp2_with fail
                go_big_quiet (fail)
                have hr6 := hr5.below (drewN_below w5 nq)
                have hw6 := hw5.trans (To.of (drewN_below w5 nq))
                have ho6 := own_to ho5 (To.of (r := r) (drewN_below w5 nq)) hlt
                generalize w5.drewN nq = w6 at hr6 hw6 ho6 ⊢
                clear k0 k1 nq
                have k0 := hr6.c0
                have k1 := hr6.c1
                have k2 := hr6.f1
                have hr7 := hr6.set (k + 1) hlt2
                have hw7 := hw6.trans (To.set r w6 1 (.int .i64 ((k + 1 : Nat))))
                have ho7 := own_to ho6 (To.set r w6 1 (.int .i64 ((k + 1 : Nat)))) hlt
                push_cast at hr7 hw7 ho7
                go_upto_region 5 with fail
                clear k0 k1 k2
                generalize w6.setCell ⟨r, 1, none⟩ (.int .i64 ((k : Int) + 1)) = w7 at hr7 hw7 ho7 ⊢
                have hzw : w.heap.size ≤ w7.heap.size := hw7.size
                have k0 := hr7.c0
                have k1 := hr7.c1
                push_cast at k1
                go_wp2_with fail
                go_big_quiet (fail)
                have hr8 := hr7.below (drewN_below w7 nq)
                have hw8 := hw7.trans (To.of (drewN_below w7 nq))
                have ho8 := own_to ho7 (To.of (r := r) (drewN_below w7 nq)) hlt
                generalize w7.drewN nq = w8 at hr8 hw8 ho8 ⊢
                clear k0 k1 nq
                have k0 := hr8.c0
                have k1 := hr8.c1
                push_cast at k1
                go_wp2_with fail
                go_big_quiet (fail)
                have hr9 := hr8.below (drewN_below w8 nq)
                have hw9 := hw8.trans (To.of (drewN_below w8 nq))
                have ho9 := own_to ho8 (To.of (r := r) (drewN_below w8 nq)) hlt
                generalize w8.drewN nq = w9 at hr9 hw9 ho9 ⊢
                clear k0 k1 nq
                have k0 := hr9.c0
                have k1 := hr9.c1
                push_cast at k1
                have k2 := hr9.f1
                have hrS := hr9.set (k + 1 + 1) hlt5
                have hwS := hw9.trans (To.set r w9 1 (.int .i64 ((k + 1 + 1 : Nat))))
                have hoS := own_to ho9 (To.set r w9 1 (.int .i64 ((k + 1 + 1 : Nat)))) hlt
                push_cast at hrS hwS hoS
                go_upto_region 18 with fail
                clear k0 k1 k2
                generalize w9.setCell ⟨r, 1, none⟩ (.int .i64 ((k : Int) + 1 + 1)) = wS at hrS hwS hoS ⊢
                have hzS : w.heap.size ≤ wS.heap.size := hwS.size
                go_wp2_with (at_builtin; refine wpList_append_lies _ rfl (.tmp 115) (.tmp 117) 155 rfl w.heap.size 5 i0 (.int .u8 0) 1 1 Tryz.underlying155 hi0 hz0 hz1 hz2 rfl (by decide) _ _ _ rfl (hoS.alloc _) ⟨_, 0, none⟩ 1 1 [.int .u8 y] rfl rfl (new_cells (by simp) _ _) (byte_one _) (by decide) (by unfold maxLen; omega) (by omega) (by simp; omega) _ rfl ?_; intro g cap w3 hown3 hgrow3 hat3 hlt4; have hgrow3 : World.grownBy _ w3 u3.ownBlock := hgrow3)
                have hrG := Sr.grown hlt (hrS.alloc (.cells #[.int .u8 y] 5)) hgrow3 (fun k hk => (hoS.lt k hk).1)
                have hwG := (hwS.trans (To.alloc r _ (.cells #[.int .u8 y] 5))).grown hgrow3 (fun k hk => (hoS.lt k hk).1)
                have hown4 : w3.ownsRow w.heap.size 5 1 (.slice (some ⟨g, 0, none⟩) (acc.length + 1) cap) (acc ++ [c]).length ((acc ++ [c]).map byteV) := by simpa [hyc] using hown3
                have hm1 := hrG.lef
                go_roundw
                case rel => exact ⟨k + 1 + 1, acc ++ [c], by simp; omega, by omega, HR.out.trans HF.out, hrG, hwG, hown4⟩
                case measure => omega

              · have HF : Hid (quo t k acc = quo t (k + 2) (acc ++ [c])) := Lib.hid (by rw [HE2.out, HYI.out]; exact if_pos (.inr y2))
                have y1' : (y == 34) = false := by simpa using y1
                have y2' : (y == 92) = true := by simpa using y2
                have z1 : (y != 34) = true := by simp [bne, y1']
                have z2 : (y != 92) = false := by simp [bne, y2']
                have y4 : (y == 110) = false := by simp; omega
                clear HE2 y1 y2
                go_wp2_with fail
                go_big_quiet (fail)
                have hr5 := hrr.below (drewN_below wr nq)
                have hw5 := hwr.trans (To.of (drewN_below wr nq))
                have ho5 := own_to hor (To.of (r := r) (drewN_below wr nq)) hlt
                generalize wr.drewN nq = w5 at hr5 hw5 ho5 ⊢
                clear k0 k1 nq
                have k0 := hr5.c0
                have k1 := hr5.c1
                go_wp2_with fail
                go_big_quiet (fail)
                have hr6 := hr5.below (drewN_below w5 nq)
                have hw6 := hw5.trans (To.of (drewN_below w5 nq))
                have ho6 := own_to ho5 (To.of (r := r) (drewN_below w5 nq)) hlt
                generalize w5.drewN nq = w6 at hr6 hw6 ho6 ⊢
                clear k0 k1 nq
                have k0 := hr6.c0
                have k1 := hr6.c1
                have k2 := hr6.f1
                have hr7 := hr6.set (k + 1) hlt2
                have hw7 := hw6.trans (To.set r w6 1 (.int .i64 ((k + 1 : Nat))))
                have ho7 := own_to ho6 (To.set r w6 1 (.int .i64 ((k + 1 : Nat)))) hlt
                push_cast at hr7 hw7 ho7
                go_upto_region 5 with fail
                clear k0 k1 k2
                generalize w6.setCell ⟨r, 1, none⟩ (.int .i64 ((k : Int) + 1)) = w7 at hr7 hw7 ho7 ⊢
                have hzw : w.heap.size ≤ w7.heap.size := hw7.size
                have k0 := hr7.c0
                have k1 := hr7.c1
                push_cast at k1
                go_wp2_with fail
                go_big_quiet (fail)
                have hr8 := hr7.below (drewN_below w7 nq)
                have hw8 := hw7.trans (To.of (drewN_below w7 nq))
                have ho8 := own_to ho7 (To.of (r := r) (drewN_below w7 nq)) hlt
                generalize w7.drewN nq = w8 at hr8 hw8 ho8 ⊢
                clear k0 k1 nq
                have k0 := hr8.c0
                have k1 := hr8.c1
                push_cast at k1
                go_wp2_with fail
                go_big_quiet (fail)
                have hr9 := hr8.below (drewN_below w8 nq)
                have hw9 := hw8.trans (To.of (drewN_below w8 nq))
                have ho9 := own_to ho8 (To.of (r := r) (drewN_below w8 nq)) hlt
                generalize w8.drewN nq = w9 at hr9 hw9 ho9 ⊢
                clear k0 k1 nq
                have k0 := hr9.c0
                have k1 := hr9.c1
                push_cast at k1
                have k2 := hr9.f1
                have hrS := hr9.set (k + 1 + 1) hlt5
                have hwS := hw9.trans (To.set r w9 1 (.int .i64 ((k + 1 + 1 : Nat))))
                have hoS := own_to ho9 (To.set r w9 1 (.int .i64 ((k + 1 + 1 : Nat)))) hlt
                push_cast at hrS hwS hoS
                go_upto_region 18 with fail
                clear k0 k1 k2
                generalize w9.setCell ⟨r, 1, none⟩ (.int .i64 ((k : Int) + 1 + 1)) = wS at hrS hwS hoS ⊢
                have hzS : w.heap.size ≤ wS.heap.size := hwS.size
                go_wp2_with (at_builtin; refine wpList_append_lies _ rfl (.tmp 115) (.tmp 117) 155 rfl w.heap.size 5 i0 (.int .u8 0) 1 1 Tryz.underlying155 hi0 hz0 hz1 hz2 rfl (by decide) _ _ _ rfl (hoS.alloc _) ⟨_, 0, none⟩ 1 1 [.int .u8 y] rfl rfl (new_cells (by simp) _ _) (byte_one _) (by decide) (by unfold maxLen; omega) (by omega) (by simp; omega) _ rfl ?_; intro g cap w3 hown3 hgrow3 hat3 hlt4; have hgrow3 : World.grownBy _ w3 u3.ownBlock := hgrow3)
                have hrG := Sr.grown hlt (hrS.alloc (.cells #[.int .u8 y] 5)) hgrow3 (fun k hk => (hoS.lt k hk).1)
                have hwG := (hwS.trans (To.alloc r _ (.cells #[.int .u8 y] 5))).grown hgrow3 (fun k hk => (hoS.lt k hk).1)
                have hown4 : w3.ownsRow w.heap.size 5 1 (.slice (some ⟨g, 0, none⟩) (acc.length + 1) cap) (acc ++ [c]).length ((acc ++ [c]).map byteV) := by simpa [hyc] using hown3
                have hm1 := hrG.lef
                go_roundw
                case rel => exact ⟨k + 1 + 1, acc ++ [c], by simp; omega, by omega, HR.out.trans HF.out, hrG, hwG, hown4⟩
                case measure => omega

              · have HF : Hid (quo t k acc = quo t (k + 2) (acc ++ [10])) := Lib.hid (by rw [HE2.out, HYI.out]; rw [if_neg (by omega), if_pos y3])
                have y1' : (y == 34) = false := by simpa using y1
                have y2' : (y == 92) = false := by simpa using y2
                have y3' : (y == 110) = true := by simpa using y3
                have z1 : (y != 34) = true := by simp [bne, y1']
                have z2 : (y != 92) = true := by simp [bne, y2']
                have z3 : (y != 110) = false := by simp [bne, y3']
                clear HE2 y1 y2 y3
                go_wp2_with fail
                go_big_quiet (fail)
                have hr5 := hrr.below (drewN_below wr nq)
                have hw5 := hwr.trans (To.of (drewN_below wr nq))
                have ho5 := own_to hor (To.of (r := r) (drewN_below wr nq)) hlt
                generalize wr.drewN nq = w5 at hr5 hw5 ho5 ⊢
                clear k0 k1 nq
                have k0 := hr5.c0
                have k1 := hr5.c1
                go_wp2_with fail
                go_big_quiet (fail)
                have hr6 := hr5.below (drewN_below w5 nq)
                have hw6 := hw5.trans (To.of (drewN_below w5 nq))
                have ho6 := own_to ho5 (To.of (r := r) (drewN_below w5 nq)) hlt
                generalize w5.drewN nq = w6 at hr6 hw6 ho6 ⊢
                clear k0 k1 nq
                have k0 := hr6.c0
                have k1 := hr6.c1
                have k2 := hr6.f1
                have hr7 := hr6.set (k + 1) hlt2
                have hw7 := hw6.trans (To.set r w6 1 (.int .i64 ((k + 1 : Nat))))
                have ho7 := own_to ho6 (To.set r w6 1 (.int .i64 ((k + 1 : Nat)))) hlt
                push_cast at hr7 hw7 ho7
                go_upto_region 5 with fail
                clear k0 k1 k2
                generalize w6.setCell ⟨r, 1, none⟩ (.int .i64 ((k : Int) + 1)) = w7 at hr7 hw7 ho7 ⊢
                have hzw : w.heap.size ≤ w7.heap.size := hw7.size
                have k0 := hr7.c0
                have k1 := hr7.c1
                push_cast at k1
                go_wp2_with fail
                go_big_quiet (fail)
                have hr8 := hr7.below (drewN_below w7 nq)
                have hw8 := hw7.trans (To.of (drewN_below w7 nq))
                have ho8 := own_to ho7 (To.of (r := r) (drewN_below w7 nq)) hlt
                generalize w7.drewN nq = w8 at hr8 hw8 ho8 ⊢
                clear k0 k1 nq
                have k0 := hr8.c0
                have k1 := hr8.c1
                push_cast at k1
                go_wp2_with fail
                go_big_quiet (fail)
                have hr9 := hr8.below (drewN_below w8 nq)
                have hw9 := hw8.trans (To.of (drewN_below w8 nq))
                have ho9 := own_to ho8 (To.of (r := r) (drewN_below w8 nq)) hlt
                generalize w8.drewN nq = w9 at hr9 hw9 ho9 ⊢
                clear k0 k1 nq
                have k0 := hr9.c0
                have k1 := hr9.c1
                push_cast at k1
                have k2 := hr9.f1
                have hrS := hr9.set (k + 1 + 1) hlt5
                have hwS := hw9.trans (To.set r w9 1 (.int .i64 ((k + 1 + 1 : Nat))))
                have hoS := own_to ho9 (To.set r w9 1 (.int .i64 ((k + 1 + 1 : Nat)))) hlt
                push_cast at hrS hwS hoS
                go_upto_region 18 with fail
                clear k0 k1 k2
                generalize w9.setCell ⟨r, 1, none⟩ (.int .i64 ((k : Int) + 1 + 1)) = wS at hrS hwS hoS ⊢
                have hzS : w.heap.size ≤ wS.heap.size := hwS.size
                go_wp2_with (at_builtin; refine wpList_append_lies _ rfl (.tmp 115) (.tmp 117) 155 rfl w.heap.size 5 i0 (.int .u8 0) 1 1 Tryz.underlying155 hi0 hz0 hz1 hz2 rfl (by decide) _ _ _ rfl (hoS.alloc _) ⟨_, 0, none⟩ 1 1 [.int .u8 10] rfl rfl (new_cells (by simp) _ _) (byte_one _) (by decide) (by unfold maxLen; omega) (by omega) (by simp; omega) _ rfl ?_; intro g cap w3 hown3 hgrow3 hat3 hlt4; have hgrow3 : World.grownBy _ w3 u3.ownBlock := hgrow3)
                have hrG := Sr.grown hlt (hrS.alloc (.cells #[.int .u8 10] 5)) hgrow3 (fun k hk => (hoS.lt k hk).1)
                have hwG := (hwS.trans (To.alloc r _ (.cells #[.int .u8 10] 5))).grown hgrow3 (fun k hk => (hoS.lt k hk).1)
                have hown4 : w3.ownsRow w.heap.size 5 1 (.slice (some ⟨g, 0, none⟩) (acc.length + 1) cap) (acc ++ [10]).length ((acc ++ [10]).map byteV) := by simpa [byteV] using hown3
                have hm1 := hrG.lef
                go_roundw
                case rel => exact ⟨k + 1 + 1, acc ++ [10], by simp; omega, by omega, HR.out.trans HF.out, hrG, hwG, hown4⟩
                case measure => omega

              · have HF : Hid (quo t k acc = none) := Lib.hid (by rw [HE2.out, HYI.out]; rw [if_neg (by omega), if_neg y3])
                have y1' : (y == 34) = false := by simpa using y1
                have y2' : (y == 92) = false := by simpa using y2
                have y3' : (y == 110) = false := by simpa using y3
                have z1 : (y != 34) = true := by simp [bne, y1']
                have z2 : (y != 92) = true := by simp [bne, y2']
                have z3 : (y != 110) = true := by simp [bne, y3']
                clear HE2 y1 y2 y3
                go_wp2_with fail
                go_big_quiet (fail)
                have hr5 := hrr.below (drewN_below wr nq)
                have hw5 := hwr.trans (To.of (drewN_below wr nq))
                have ho5 := own_to hor (To.of (r := r) (drewN_below wr nq)) hlt
                generalize wr.drewN nq = w5 at hr5 hw5 ho5 ⊢
                clear k0 k1 nq
                have k0 := hr5.c0
                have k1 := hr5.c1
                go_wp2_with fail
                go_big_quiet (fail)
                have hr6 := hr5.below (drewN_below w5 nq)
                have hw6 := hw5.trans (To.of (drewN_below w5 nq))
                have ho6 := own_to ho5 (To.of (r := r) (drewN_below w5 nq)) hlt
                generalize w5.drewN nq = w6 at hr6 hw6 ho6 ⊢
                clear k0 k1 nq
                have k0 := hr6.c0
                have k1 := hr6.c1
                have k2 := hr6.f1
                have hr7 := hr6.set (k + 1) hlt2
                have hw7 := hw6.trans (To.set r w6 1 (.int .i64 ((k + 1 : Nat))))
                have ho7 := own_to ho6 (To.set r w6 1 (.int .i64 ((k + 1 : Nat)))) hlt
                push_cast at hr7 hw7 ho7
                go_upto_region 5 with fail
                clear k0 k1 k2
                generalize w6.setCell ⟨r, 1, none⟩ (.int .i64 ((k : Int) + 1)) = w7 at hr7 hw7 ho7 ⊢
                have hzw : w.heap.size ≤ w7.heap.size := hw7.size
                have k0 := hr7.c0
                have k1 := hr7.c1
                push_cast at k1
                go_wp2_with fail
                go_big_quiet (fail)
                have hr8 := hr7.below (drewN_below w7 nq)
                have hw8 := hw7.trans (To.of (drewN_below w7 nq))
                have ho8 := own_to ho7 (To.of (r := r) (drewN_below w7 nq)) hlt
                generalize w7.drewN nq = w8 at hr8 hw8 ho8 ⊢
                clear k0 k1 nq
                have k0 := hr8.c0
                have k1 := hr8.c1
                push_cast at k1
                have hz8 : w.heap.size ≤ w8.heap.size := hw8.size
                have q2 := hr8.c2
                have q3 := hr8.f2
                have hr9 := hr8.flag true
                have hw9 := hw8.trans (To.set r w8 2 (.bool true))
                go_wp2_with fail
                go_ret
                exact ⟨_, _, rfl, by rw [HR.out, HF.out]; exact hr9, hw9, fun y k' hy => by rw [HR.out, HF.out] at hy; cases hy⟩

            · have HF : Hid (quo t k acc = none) := Lib.hid (by rw [HE.out, dif_pos hlt2, HXI.out, if_neg h34, if_pos h92, dif_neg hlt5])
              have g5 : decide ((t.size : Int) ≤ (k : Int) + 1) = true := decide_eq_true (by omega)
              have g6 : decide (t.size ≤ k + 1) = true := decide_eq_true (by omega)
              clear HE HXI h34 h92 h32
              go_wp2_with fail
              go_big_quiet (fail)
              have hr5 := hrr.below (drewN_below wr nq)
              have hw5 := hwr.trans (To.of (drewN_below wr nq))
              have ho5 := own_to hor (To.of (r := r) (drewN_below wr nq)) hlt
              generalize wr.drewN nq = w5 at hr5 hw5 ho5 ⊢
              clear k0 k1 nq
              have k0 := hr5.c0
              have k1 := hr5.c1
              go_wp2_with fail
              go_big_quiet (fail)
              have hr6 := hr5.below (drewN_below w5 nq)
              have hw6 := hw5.trans (To.of (drewN_below w5 nq))
              have ho6 := own_to ho5 (To.of (r := r) (drewN_below w5 nq)) hlt
              generalize w5.drewN nq = w6 at hr6 hw6 ho6 ⊢
              clear k0 k1 nq
              have k0 := hr6.c0
              have k1 := hr6.c1
              have k2 := hr6.f1
              have hr7 := hr6.set (k + 1) hlt2
              have hw7 := hw6.trans (To.set r w6 1 (.int .i64 ((k + 1 : Nat))))
              have ho7 := own_to ho6 (To.set r w6 1 (.int .i64 ((k + 1 : Nat)))) hlt
              push_cast at hr7 hw7 ho7
              go_upto_region 5 with fail
              clear k0 k1 k2
              generalize w6.setCell ⟨r, 1, none⟩ (.int .i64 ((k : Int) + 1)) = w7 at hr7 hw7 ho7 ⊢
              have hzw : w.heap.size ≤ w7.heap.size := hw7.size
              have k0 := hr7.c0
              have k1 := hr7.c1
              push_cast at k1
              go_wp2_with fail
              go_big_quiet (fail)
              have hr8 := hr7.below (drewN_below w7 nq)
              have hw8 := hw7.trans (To.of (drewN_below w7 nq))
              have ho8 := own_to ho7 (To.of (r := r) (drewN_below w7 nq)) hlt
              generalize w7.drewN nq = w8 at hr8 hw8 ho8 ⊢
              clear k0 k1 nq
              have k0 := hr8.c0
              have k1 := hr8.c1
              have q2 := hr8.c2
              have q3 := hr8.f2
              have hr9 := hr8.flag true
              have hw9 := hw8.trans (To.set r w8 2 (.bool true))
              go_wp2_with fail
              go_ret
              exact ⟨_, _, rfl, by rw [HR.out, HF.out]; exact hr9, hw9, fun y k' hy => by rw [HR.out, HF.out] at hy; cases hy⟩

          · have h92' : (x == 92) = false := by simpa using h92
            have HF : Hid (quo t k acc = quo t (k + 1) (acc ++ [b])) := Lib.hid (by rw [HE.out, dif_pos hlt2, HXI.out, if_neg h34, if_neg h92, if_neg h32, HB.out])
            clear HE HXI h34 h92
            go_wp2_with fail
            go_big_quiet (fail)
            have hr5 := hrr.below (drewN_below wr nq)
            have hw5 := hwr.trans (To.of (drewN_below wr nq))
            have ho5 := own_to hor (To.of (r := r) (drewN_below wr nq)) hlt
            generalize wr.drewN nq = w5 at hr5 hw5 ho5 ⊢
            clear k0 k1 nq
            have k0 := hr5.c0
            have k1 := hr5.c1
            go_wp2_with fail
            go_big_quiet (fail)
            have hr6 := hr5.below (drewN_below w5 nq)
            have hw6 := hw5.trans (To.of (drewN_below w5 nq))
            have ho6 := own_to ho5 (To.of (r := r) (drewN_below w5 nq)) hlt
            generalize w5.drewN nq = w6 at hr6 hw6 ho6 ⊢
            clear k0 k1 nq
            have k0 := hr6.c0
            have k1 := hr6.c1
            have k2 := hr6.f1
            have hr7 := hr6.set (k + 1) hlt2
            have hw7 := hw6.trans (To.set r w6 1 (.int .i64 ((k + 1 : Nat))))
            have ho7 := own_to ho6 (To.set r w6 1 (.int .i64 ((k + 1 : Nat)))) hlt
            push_cast at hr7 hw7 ho7
            go_upto_region 5 with fail
            clear k0 k1 k2
            generalize w6.setCell ⟨r, 1, none⟩ (.int .i64 ((k : Int) + 1)) = w7 at hr7 hw7 ho7 ⊢
            have hzw : w.heap.size ≤ w7.heap.size := hw7.size
            go_wp2_with (at_builtin; refine wpList_append_lies _ rfl (.tmp 115) (.tmp 117) 155 rfl w.heap.size 5 i0 (.int .u8 0) 1 1 Tryz.underlying155 hi0 hz0 hz1 hz2 rfl (by decide) _ _ _ rfl (ho7.alloc _) ⟨_, 0, none⟩ 1 1 [.int .u8 x] rfl rfl (new_cells (by simp) _ _) (byte_one _) (by decide) (by unfold maxLen; omega) (by omega) (by simp; omega) _ rfl ?_; intro g cap w3 hown3 hgrow3 hat3 hlt4; have hgrow3 : World.grownBy _ w3 u3.ownBlock := hgrow3)
            have hrG := Sr.grown hlt (hr7.alloc (.cells #[.int .u8 x] 5)) hgrow3 (fun k hk => (ho7.lt k hk).1)
            have hwG := (hw7.trans (To.alloc r _ (.cells #[.int .u8 x] 5))).grown hgrow3 (fun k hk => (ho7.lt k hk).1)
            have hown4 : w3.ownsRow w.heap.size 5 1 (.slice (some ⟨g, 0, none⟩) (acc.length + 1) cap) (acc ++ [b]).length ((acc ++ [b]).map byteV) := by simpa [hxb] using hown3
            have hm1 := hrG.lef
            go_roundw
            case rel => exact ⟨k + 1, acc ++ [b], by simp; omega, by omega, HR.out.trans HF.out, hrG, hwG, hown4⟩
            case measure => omega

    · have HF : Hid (quo t k acc = none) := Lib.hid (by rw [quo_eq, dif_neg hlt2])
      have g1 : decide ((k : Int) < t.size) = false := decide_eq_false (by omega)
      go_wp2_with fail
      go_big_quiet (fail)
      have hr5 := hrr.below (drewN_below wr nq)
      have hw5 := hwr.trans (To.of (drewN_below wr nq))
      have ho5 := own_to hor (To.of (r := r) (drewN_below wr nq)) hlt
      generalize wr.drewN nq = w5 at hr5 hw5 ho5 ⊢
      clear k0 k1 nq
      have k0 := hr5.c0
      have k1 := hr5.c1
      have q2 := hr5.c2
      have q3 := hr5.f2
      have hr9 := hr5.flag true
      have hw9 := hw5.trans (To.set r w5 2 (.bool true))
      go_wp2_with fail
      go_ret
      exact ⟨_, _, rfl, by rw [HR.out, HF.out]; exact hr9, hw9, fun y k' hy => by rw [HR.out, HF.out] at hy; cases hy⟩
end Go.Proofs.YtllhimeffkefiaaGreatDoor
