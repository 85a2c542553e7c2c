/- Texts of one proof, joined in their order: each bears its own word of what it holds and on what condition. -/
import Derived.Test.YtllhimeffkefiaaGreatDoorMSd
import Derived.Test.YtllhimeffkefiaaGreatDoorMD
import Derived.Deep.Cut
set_option linter.unusedVariables false
set_option linter.unusedSimpArgs false
/- The specification's reading of digits, of names and of numbers of things. Condition: texts of at most 2^20 bytes. -/
set_option linter.unusedVariables false
set_option linter.unusedSimpArgs false
namespace Go.Proofs.YtllhimeffkefiaaGreatDoor
open Go.RowKit Go.Sort

def DigS (r : Nat) (t : ByteArray) (i n : Nat) (c : Bool) (w : World) (e : Ending) (w' : World) : Prop :=
  ∃ v j, e = .returned (.int .i64 v) ∧ Sr w' r t j (c || !digOk t i n) ∧ To r w w' ∧ 0 ≤ v ∧ v ≤ 100000 ∧ (digOk t i n = true → v = digN t i n ∧ j = i + n)
set_option maxHeartbeats 1000000 in
set_option maxRecDepth 100000 in
theorem digits_any (w : World) (r : Nat) (t : ByteArray) (i n : Nat) (hn : n ≤ 4) (c : Bool) (h : Sr w r t i c) : Calls Tryz.prog 168 #[.pointer (some ⟨r, 0, none⟩), .int .i64 n] w (DigS r t i n c w) := by
  have hn2 : (n : Int) ≤ 4 := by omega
  have hz := h.sz
  go_enter Tryz.func168, Tryz.ntmps168
  go_wp2
  go_loopw [5, 6] (fun v kk wr => ∃ k : Nat, k ≤ n ∧ kk = .int .i64 k ∧ v = .int .i64 (digN t i k) ∧ Hid (digOk t i k = true) ∧ Sr wr r t (i + k) c ∧ To r w wr) (fun v kk wr => n - (intOf kk).toNat)
  case atStart => exact ⟨0, by omega, rfl, rfl, Lib.hid rfl, h, To.refl _ _⟩
  case round =>
    obtain ⟨k, hk, rfl, rfl, HO, hr, ht⟩ := hrel
    have hk2 : (k : Int) ≤ n := by omega
    have hle := hr.le
    have q0 := hr.c0
    have q1 := hr.c1
    push_cast at q1
    by_cases hlt : k < n
    · have hlt2 : (k : Int) < n := by omega
      have g0 : decide ((k : Int) < n) = true := decide_eq_true hlt2
      have g0' : decide (k < n) = true := decide_eq_true hlt
      by_cases hls : i + k < t.size
      · have g1 : decide ((t.size : Int) ≤ (i : Int) + k) = false := decide_eq_false (by omega)
        have g1' : decide (t.size ≤ i + k) = false := decide_eq_false (by omega)
        have g2 : (i : Int) + k < t.size := by omega
        have g3 : ((i : Int) + k).toNat = i + k := by omega
        have g4 : (0 : Int) ≤ (i : Int) + k := by omega
        obtain ⟨x, hx⟩ : ∃ x : Int, byI t (i + k) = x := ⟨_, rfl⟩
        have hx' : (t[i + k].toNat : Int) = x := by rw [← hx, byI_eq hls]
        cases hdg : digB x with
        | true =>
          obtain ⟨d1, d2⟩ := digB_bd hdg
          obtain ⟨m, hm⟩ : ∃ m : Int, digN t i k = m := ⟨_, rfl⟩
          have hb := digN_bd t i k HO.out
          have hp : (10 : Int) ^ k ≤ 10 ^ 4 := by
            have : (10 : Nat) ^ k ≤ 10 ^ 4 := Nat.pow_le_pow_right (by decide) (by omega)
            exact_mod_cast this
          rw [hm] at hb ⊢
          have m0 : 0 ≤ m := by omega
          have m1 : m ≤ 10000 := by omega
          have HN : Hid (digN t i (k + 1) = m * 10 + (x - 48)) := Lib.hid (by simp only [digN]; rw [hm, hx])
          have HO' : Hid (digOk t i (k + 1) = true) := Lib.hid (by simp only [digOk]; rw [HO.out, hx, hdg]; rfl)
          clear hb hp hm hx
          go_wp2_with fail
          go_big_quiet ((go_at_call 116; exact Calls.quiet_of_same ((sdigit_is _ _ _ hdg).mono fun e w' h => ⟨h.1, h.2.symm⟩)))
          have hr5 := hr.below (drewN_below wr nq)
          have ht5 := ht.trans (To.of (drewN_below wr nq))
          generalize wr.drewN nq = w5 at hr5 ht5 ⊢
          clear q0 q1 nq
          have q0 := hr5.c0
          have q1 := hr5.c1
          push_cast at q1
          go_wp2_with fail
          go_big_quiet (fail)
          have hr6 := hr5.below (drewN_below w5 nq)
          have ht6 := ht5.trans (To.of (drewN_below w5 nq))
          generalize w5.drewN nq = w6 at hr6 ht6 ⊢
          clear q0 q1 nq
          have q0 := hr6.c0
          have q1 := hr6.c1
          have q2 := hr6.f1
          push_cast at q1
          have hr7 := hr6.set (i + (k + 1)) (by omega)
          have ht7 := ht6.trans (To.set r w6 1 (.int .i64 ((i + (k + 1) : Nat))))
          have e7 : ((i + (k + 1) : Nat) : Int) = (i : Int) + k + 1 := by omega
          rw [e7] at hr7 ht7
          go_wp2_with fail
          go_roundw
          case rel => exact ⟨k + 1, hlt, by go_num, by rw [HN.out], HO', hr7, ht7⟩
          case measure => simp [intOf]; omega
        | false =>
          have HF : Hid (digOk t i n = false) := Lib.hid (digOk_no hlt (by rw [hx, hdg]))
          clear hx
          go_wp2_with fail
          go_big_quiet ((go_at_call 116; exact Calls.quiet_of_same ((sdigit_is _ _ _ hdg).mono fun e w' h => ⟨h.1, h.2.symm⟩)))
          have hr5 := hr.below (drewN_below wr nq)
          have ht5 := ht.trans (To.of (drewN_below wr nq))
          generalize wr.drewN nq = w5 at hr5 ht5 ⊢
          clear q0 q1 nq
          have q2 := hr5.c2
          have q3 := hr5.f2
          have hr6 := hr5.flag true
          have ht6 := ht5.trans (To.set r w5 2 (.bool true))
          go_wp2_with fail
          go_ret
          exact ⟨0, i + k, rfl, by rw [HF.out]; simpa using hr6, ht6, by omega, by omega, fun hf => by rw [HF.out] at hf; cases hf⟩
      · have g1 : decide ((t.size : Int) ≤ (i : Int) + k) = true := decide_eq_true (by omega)
        have g1' : decide (t.size ≤ i + k) = true := decide_eq_true (by omega)
        have HF : Hid (digOk t i n = false) := Lib.hid (digOk_no hlt (by unfold byI; rw [dif_neg hls]; rfl))
        go_wp2_with fail
        go_big_quiet (fail)
        have hr5 := hr.below (drewN_below wr nq)
        have ht5 := ht.trans (To.of (drewN_below wr nq))
        generalize wr.drewN nq = w5 at hr5 ht5 ⊢
        clear q0 q1 nq
        have q2 := hr5.c2
        have q3 := hr5.f2
        have hr6 := hr5.flag true
        have ht6 := ht5.trans (To.set r w5 2 (.bool true))
        go_wp2_with fail
        go_ret
        exact ⟨0, i + k, rfl, by rw [HF.out]; simpa using hr6, ht6, by omega, by omega, fun hf => by rw [HF.out] at hf; cases hf⟩
    · have hk3 : k = n := by omega
      subst hk3
      have g0 : decide ((k : Int) < k) = false := decide_eq_false (by omega)
      have hb := digN_bd t i k HO.out
      have hp : (10 : Int) ^ k ≤ 10 ^ 4 := by
        have : (10 : Nat) ^ k ≤ 10 ^ 4 := Nat.pow_le_pow_right (by decide) (by omega)
        exact_mod_cast this
      go_wp2
      go_ret
      exact ⟨_, _, rfl, by rw [HO.out]; simpa using hr, ht, hb.1, by omega, fun _ => ⟨rfl, rfl⟩⟩

/-! ### names -/
def SNm (r : Nat) (t : ByteArray) (i : Nat) (c : Bool) (w : World) (e : Ending) (w' : World) : Prop :=
  e = .returned (.string (nameAt t i)) ∧ Sr w' r t (nameEnd t i) (c || !nameB (nameAt t i)) ∧ To r w w'
theorem sletter_is (n : Int) (w : World) (b : Bool) (h : letB n = b) : Calls Tryz.prog 115 #[.int .u8 n] w (BoolR b w) := h ▸ l01Letter_any n w
theorem sname_is (s : ByteArray) (w : World) (b : Bool) (h : nameB s = b) : Calls Tryz.prog 96 #[.string s] w (BoolR b w) := h ▸ l01Name_any s w

/-! ### values -/
/-- a value of the specification's, as the machine holds it -/
def VS (w : World) (S : Nat → Prop) (v : Value) (x : Val) : Prop := ∃ f : Nat → Value, v = .agg #[f 0, f 1, f 2, f 3, f 4, f 5] ∧ EV 5 4 w S f x
theorem VS.flat (w : World) (S : Nat → Prop) (k n m : Int) (s : ByteArray) : VS w S (.agg #[.int .i64 k, .int .i64 n, .int .i64 m, .string s, .slice none 0 0, .slice none 0 0]) (flat k n m s) :=
  ⟨fun j => if j = 0 then .int .i64 k else if j = 1 then .int .i64 n else if j = 2 then .int .i64 m else if j = 3 then .string s else .slice none 0 0, rfl, EV_iff.2 ⟨rfl, rfl, rfl, rfl, nilRow _ _ _ _, nilRow _ _ _ _⟩⟩
/-- reading hands back a value; whether it is one stands in the reader -/
def ValS (r : Nat) (t : ByteArray) (p : Option (Val × Nat)) (w : World) (e : Ending) (w' : World) : Prop :=
  ∃ v x j, e = .returned v ∧ VS w' (fun b => w.heap.size ≤ b) v x ∧ Sr w' r t j p.isNone ∧ To r w w' ∧ ∀ y k, p = some (y, k) → x = y ∧ j = k
theorem valS_flat {r : Nat} {t : ByteArray} {w w3 : World} {j : Nat} {k n m : Int} {s : ByteArray} {p : Option (Val × Nat)} {b : Bool} (hlt : r < w.heap.size) (hr : Sr w3 r t j b) (ht : To r w w3) (hb : b = p.isNone)
    (hp : ∀ y k', p = some (y, k') → flat k n m s = y ∧ j = k') (us : List Value) :
    ValS r t p w (.returned (.agg #[.int .i64 k, .int .i64 n, .int .i64 m, .string s, .slice none 0 0, .slice none 0 0])) (sets w3 w.heap.size 0 us) :=
  ⟨_, flat k n m s, j, rfl, VS.flat _ _ _ _ _ _, by rw [← hb]; exact Sr.sets (by omega) us 0 hr, To.sets (Nat.le_refl _) _ _ ht, hp⟩
/-- a node or an edge: i: behind the letter -/
def pThg (k : Int) (t : ByteArray) (i : Nat) : Option (Val × Nat) := ((pNum t i).filter okId).map fun n => (flat k n 0 e0, numEnd t i)
theorem snum0 (w : World) (r : Nat) (t : ByteArray) (i : Nat) (h : Sr w r t i false) : Calls Tryz.prog 152 #[.pointer (some ⟨r, 0, none⟩)] w (NumS r t i false w) := snum_any w r t i false h
set_option maxHeartbeats 1000000 in
set_option maxRecDepth 100000 in
theorem sthing_any (w : World) (r : Nat) (t : ByteArray) (i : Nat) (k : Int) (h : Sr w r t i false) : Calls Tryz.prog 153 #[.pointer (some ⟨r, 0, none⟩), .int .i64 k] w (ValS r t (pThg k t i) w) := by
  have hlt := h.lt
  have hne : w.heap.size ≠ r := by omega
  have ha := (To.alloc r w (.cells #[.int .i64 0, .int .i64 0, .int .i64 0, .string ⟨#[]⟩, .slice none 0 0, .slice none 0 0] 179))
  have h0 := h.alloc (.cells #[.int .i64 0, .int .i64 0, .int .i64 0, .string ⟨#[]⟩, .slice none 0 0, .slice none 0 0] 179)
  go_enter Tryz.func153, Tryz.ntmps153
  go_upto_region 2 with (go_at_call 152; refine (snum0 _ r t i h0).mono ?_; rintro e w1 ⟨n, rfl, hr1, ht1, hp1⟩)
  rw [Bool.false_or] at hr1
  obtain ⟨b0, b1, b2, b3, b4, b5, bf, bz⟩ := boxOf ht1 hne
  have hw1 := ha.trans ht1
  have q2 := hr1.c2
  have q3 := hr1.f2
  by_cases hk : okId n = true
  · have hk' : 1 ≤ n ∧ n ≤ 1000000000000 := by simpa [okId] using hk
    obtain ⟨k1, k2⟩ := hk'
    have g1 : decide (n < 1) = false := decide_eq_false (by omega)
    have g2 : decide (1000000000000 < n) = false := decide_eq_false (by omega)
    have HP : Hid ((pThg k t i).isNone = (pNum t i).isNone) := Lib.hid (by
      unfold pThg
      cases hq : pNum t i with
      | none => rfl
      | some v => rw [hp1 v hq] at hk; simp [Option.filter, hk])
    go_wp2_with fail
    exact bodyPost_ret (v := .agg #[.int .i64 k, .int .i64 n, .int .i64 0, .string ⟨#[]⟩, .slice none 0 0, .slice none 0 0]) (by simp [results, Tryz.results153, go_sem, b0, b1, b2, b3, b4, b5]) rfl
      (valS_flat hlt hr1 hw1 HP.out.symm (fun y k' hy => by
        unfold pThg at hy
        cases hq : pNum t i with
        | none => rw [hq] at hy; cases hy
        | some v =>
          have hv := hp1 v hq
          subst hv
          rw [hq] at hy
          simp [Option.filter, hk] at hy
          exact ⟨hy.1, hy.2⟩) [.int .i64 k, .int .i64 n, .int .i64 0, .string ⟨#[]⟩, .slice none 0 0, .slice none 0 0])
  · have HP : Hid (pThg k t i = none) := Lib.hid (by
      unfold pThg
      cases hq : pNum t i with
      | none => rfl
      | some v => rw [hp1 v hq] at hk; simp [Option.filter, hk])
    have hk' : n < 1 ∨ 1000000000000 < n := by
      have : ¬ (1 ≤ n ∧ n ≤ 1000000000000) := by simpa [okId] using hk
      omega
    have hr2 := hr1.flag true
    have hw2 := hw1.trans (To.set r w1 2 (.bool true))
    clear hk
    rcases hk' with k1 | k2
    · have g1 : decide (n < 1) = true := decide_eq_true (by omega)
      go_wp2_with fail
      exact bodyPost_ret (v := .agg #[.int .i64 k, .int .i64 n, .int .i64 0, .string ⟨#[]⟩, .slice none 0 0, .slice none 0 0]) (by simp [results, Tryz.results153, go_sem, b0, b1, b2, b3, b4, b5, hne]) rfl
        (valS_flat hlt hr2 hw2 (by rw [HP.out]; rfl) (fun y k' hy => by rw [HP.out] at hy; cases hy) [.int .i64 k, .int .i64 n, .int .i64 0, .string ⟨#[]⟩, .slice none 0 0, .slice none 0 0])
    · have g1 : decide (n < 1) = false := decide_eq_false (by omega)
      have g2 : decide (1000000000000 < n) = true := decide_eq_true (by omega)
      go_wp2_with fail
      exact bodyPost_ret (v := .agg #[.int .i64 k, .int .i64 n, .int .i64 0, .string ⟨#[]⟩, .slice none 0 0, .slice none 0 0]) (by simp [results, Tryz.results153, go_sem, b0, b1, b2, b3, b4, b5, hne]) rfl
        (valS_flat hlt hr2 hw2 (by rw [HP.out]; rfl) (fun y k' hy => by rw [HP.out] at hy; cases hy) [.int .i64 k, .int .i64 n, .int .i64 0, .string ⟨#[]⟩, .slice none 0 0, .slice none 0 0])
end Go.Proofs.YtllhimeffkefiaaGreatDoor
/- The specification's reading of names. Condition: texts of at most 2^20 bytes. -/
set_option linter.unusedVariables false
set_option linter.unusedSimpArgs false
namespace Go.Proofs.YtllhimeffkefiaaGreatDoor
open Go.RowKit Go.Sort

set_option maxHeartbeats 2000000 in
set_option maxRecDepth 100000 in
theorem sname_any (w : World) (r : Nat) (t : ByteArray) (i : Nat) (c : Bool) (h : Sr w r t i c) : Calls Tryz.prog 172 #[.pointer (some ⟨r, 0, none⟩)] w (SNm r t i c w) := by
  have c0 := h.c0
  have c1 := h.c1
  have HE0 : Hid (nameEnd t i = run worB t i) := Lib.hid rfl
  have hle := h.le
  have hsz := h.sz
  go_enter Tryz.func172, Tryz.ntmps172
  go_wp2
  go_loopw [] (fun wr => ∃ k : Nat, i ≤ k ∧ k ≤ t.size ∧ Hid (run worB t i = run worB t k) ∧ Sr wr r t k c ∧ To r w wr) (fun wr => lefS r t wr)
  case atStart => exact ⟨i, Nat.le_refl _, hle, rfl, h, To.refl _ _⟩
  case round =>
    obtain ⟨k, hk1, hk, HR, hr, hw⟩ := hrel
    clear c0 c1
    have k0 := hr.c0
    have k1 := hr.c1
    have hik : (i : Int) ≤ k := by omega
    have hkt : (k : Int) ≤ t.size := by omega
    by_cases hlt : k < t.size
    · obtain ⟨x, hx⟩ : ∃ x : Int, byI t k = x := ⟨_, rfl⟩
      have hx' : (t[k].toNat : Int) = x := by rw [← hx, byI_eq hlt]
      have g1 : decide ((k : Int) < t.size) = true := decide_eq_true (by omega)
      have g2 : (k : Int) < t.size := by omega
      by_cases hw1 : worB x = true
      · have HG := Lib.hid (run_go (q := worB) hlt (by rw [hx]; exact hw1))
        clear hx
        rcases (show letB x = true ∨ (letB x = false ∧ digB x = true) ∨ (letB x = false ∧ digB x = false ∧ x = 95) by
          cases l : letB x <;> cases d : digB x <;> simp_all [worB]) with hq1 | ⟨hq1, hq2⟩ | ⟨hq1, hq2, hq3⟩
        rotate_left 2
        · subst hq3
          go_wp2_with fail
          go_big_quiet (first
            | (go_at_call 115; exact Calls.quiet_of_same ((sletter_is _ _ _ hq1).mono fun e w' h => ⟨h.1, h.2.symm⟩))
            | (go_at_call 116; exact Calls.quiet_of_same ((sdigit_is _ _ _ hq2).mono fun e w' h => ⟨h.1, h.2.symm⟩)))
          have hl0 := hr.lef
          have hr5 := hr.below (drewN_below wr nq)
          have hw5 := hw.trans (To.of (drewN_below wr nq))
          generalize wr.drewN nq = w5 at hr5 hw5 ⊢
          clear k0 k1 nq
          have k0 := hr5.c0
          have k1 := hr5.c1
          have k2 := hr5.f1
          have hr6 := hr5.set (k + 1) hlt
          have hw6 := hw5.trans (To.set r w5 1 (.int .i64 ((k + 1 : Nat))))
          push_cast at hr6 hw6
          go_wp2_with fail
          go_roundw
          case rel => exact ⟨k + 1, by omega, by omega, HR.out.trans HG.out, hr6, hw6⟩
          case measure => rw [hr6.lef, hl0]; omega

        all_goals
          clear hw1
          go_wp2_with fail
          go_big_quiet (first
            | (go_at_call 115; exact Calls.quiet_of_same ((sletter_is _ _ _ hq1).mono fun e w' h => ⟨h.1, h.2.symm⟩))
            | (go_at_call 116; exact Calls.quiet_of_same ((sdigit_is _ _ _ hq2).mono fun e w' h => ⟨h.1, h.2.symm⟩)))
          have hl0 := hr.lef
          have hr5 := hr.below (drewN_below wr nq)
          have hw5 := hw.trans (To.of (drewN_below wr nq))
          generalize wr.drewN nq = w5 at hr5 hw5 ⊢
          clear k0 k1 nq
          have k0 := hr5.c0
          have k1 := hr5.c1
          have k2 := hr5.f1
          have hr6 := hr5.set (k + 1) hlt
          have hw6 := hw5.trans (To.set r w5 1 (.int .i64 ((k + 1 : Nat))))
          push_cast at hr6 hw6
          go_wp2_with fail
          go_roundw
          case rel => exact ⟨k + 1, by omega, by omega, HR.out.trans HG.out, hr6, hw6⟩
          case measure => rw [hr6.lef, hl0]; omega

      · have HG := Lib.hid (run_stop (q := worB) (t := t) (i := k) (by rw [hx]; exact fun h => hw1 h.2))
        clear hx
        have hq1 : letB x = false := by
          cases l : letB x with
          | false => rfl
          | true => exact absurd (worB_let l) hw1
        have hq2 : digB x = false := by
          cases l : digB x with
          | false => rfl
          | true => exact absurd (worB_dig l) hw1
        have hq3 : (x == 95) = false := by
          cases l : x == 95 with
          | false => rfl
          | true => exact absurd (by unfold worB; simp at l; simp [l]) hw1
        clear hw1
        have HK : Hid (nameEnd t i = k) := Lib.hid (HE0.out.trans (HR.out.trans HG.out))
        go_wp2_with fail
        go_big_quiet (first
          | (go_at_call 115; exact Calls.quiet_of_same ((sletter_is _ _ _ hq1).mono fun e w' h => ⟨h.1, h.2.symm⟩))
          | (go_at_call 116; exact Calls.quiet_of_same ((sdigit_is _ _ _ hq2).mono fun e w' h => ⟨h.1, h.2.symm⟩)))
        have hr5 := hr.below (drewN_below wr nq)
        have hw5 := hw.trans (To.of (drewN_below wr nq))
        generalize wr.drewN nq = w5 at hr5 hw5 ⊢
        clear k0 k1 nq
        have k0 := hr5.c0
        have k1 := hr5.c1
        go_wp2_with fail
        obtain ⟨b, hb⟩ : ∃ b, nameB (t.extract i k) = b := ⟨_, rfl⟩
        have HB : Hid (nameB (nameAt t i) = b) := Lib.hid (by unfold nameAt; rw [HK.out, hb])
        cases b with
        | true =>
          go_big_quiet ((go_at_call 96; exact Calls.quiet_of_same ((sname_is _ _ _ hb).mono fun e w' h => ⟨h.1, h.2.symm⟩)))
          have hr6 := hr5.below (drewN_below w5 nq)
          have hw6 := hw5.trans (To.of (drewN_below w5 nq))
          generalize w5.drewN nq = w6 at hr6 hw6 ⊢
          clear k0 k1 nq
          have k0 := hr6.c0
          have k1 := hr6.c1
          go_wp2_with fail
          go_big_quiet (fail)
          have hr7 := hr6.below (drewN_below w6 nq)
          have hw7 := hw6.trans (To.of (drewN_below w6 nq))
          generalize w6.drewN nq = w7 at hr7 hw7 ⊢
          go_wp2_with fail
          go_ret
          exact ⟨by unfold nameAt; rw [HK.out]; rfl, by rw [HB.out, HK.out]; simpa using hr7, hw7⟩
        | false =>
          go_big_quiet ((go_at_call 96; exact Calls.quiet_of_same ((sname_is _ _ _ hb).mono fun e w' h => ⟨h.1, h.2.symm⟩)))
          have hr6 := hr5.below (drewN_below w5 nq)
          have hw6 := hw5.trans (To.of (drewN_below w5 nq))
          generalize w5.drewN nq = w6 at hr6 hw6 ⊢
          clear k0 k1 nq
          have k2 := hr6.c2
          have k3 := hr6.f2
          have hr6' := hr6.flag true
          have hw6' := hw6.trans (To.set r w6 2 (.bool true))
          go_upto_region 6 with fail
          clear k2 k3
          generalize w6.setCell ⟨r, 2, none⟩ (.bool true) = w8 at hr6' hw6' ⊢
          have k0 := hr6'.c0
          have k1 := hr6'.c1
          go_big_quiet (fail)
          have hr7 := hr6'.below (drewN_below w8 nq)
          have hw7 := hw6'.trans (To.of (drewN_below w8 nq))
          generalize w8.drewN nq = w7 at hr7 hw7 ⊢
          go_wp2_with fail
          go_ret
          exact ⟨by unfold nameAt; rw [HK.out]; rfl, by rw [HB.out, HK.out]; simpa using hr7, hw7⟩

    · have HG := Lib.hid (run_stop (q := worB) (t := t) (i := k) (fun h => hlt h.1))
      have g1 : decide ((k : Int) < t.size) = false := decide_eq_false (by omega)
      have HK : Hid (nameEnd t i = k) := Lib.hid (HE0.out.trans (HR.out.trans HG.out))
      go_wp2_with fail
      go_big_quiet (fail)
      have hr5 := hr.below (drewN_below wr nq)
      have hw5 := hw.trans (To.of (drewN_below wr nq))
      generalize wr.drewN nq = w5 at hr5 hw5 ⊢
      clear k0 k1 nq
      have k0 := hr5.c0
      have k1 := hr5.c1
      go_wp2_with fail
      obtain ⟨b, hb⟩ : ∃ b, nameB (t.extract i k) = b := ⟨_, rfl⟩
      have HB : Hid (nameB (nameAt t i) = b) := Lib.hid (by unfold nameAt; rw [HK.out, hb])
      cases b with
      | true =>
        go_big_quiet ((go_at_call 96; exact Calls.quiet_of_same ((sname_is _ _ _ hb).mono fun e w' h => ⟨h.1, h.2.symm⟩)))
        have hr6 := hr5.below (drewN_below w5 nq)
        have hw6 := hw5.trans (To.of (drewN_below w5 nq))
        generalize w5.drewN nq = w6 at hr6 hw6 ⊢
        clear k0 k1 nq
        have k0 := hr6.c0
        have k1 := hr6.c1
        go_wp2_with fail
        go_big_quiet (fail)
        have hr7 := hr6.below (drewN_below w6 nq)
        have hw7 := hw6.trans (To.of (drewN_below w6 nq))
        generalize w6.drewN nq = w7 at hr7 hw7 ⊢
        go_wp2_with fail
        go_ret
        exact ⟨by unfold nameAt; rw [HK.out]; rfl, by rw [HB.out, HK.out]; simpa using hr7, hw7⟩
      | false =>
        go_big_quiet ((go_at_call 96; exact Calls.quiet_of_same ((sname_is _ _ _ hb).mono fun e w' h => ⟨h.1, h.2.symm⟩)))
        have hr6 := hr5.below (drewN_below w5 nq)
        have hw6 := hw5.trans (To.of (drewN_below w5 nq))
        generalize w5.drewN nq = w6 at hr6 hw6 ⊢
        clear k0 k1 nq
        have k2 := hr6.c2
        have k3 := hr6.f2
        have hr6' := hr6.flag true
        have hw6' := hw6.trans (To.set r w6 2 (.bool true))
        go_upto_region 6 with fail
        clear k2 k3
        generalize w6.setCell ⟨r, 2, none⟩ (.bool true) = w8 at hr6' hw6' ⊢
        have k0 := hr6'.c0
        have k1 := hr6'.c1
        go_big_quiet (fail)
        have hr7 := hr6'.below (drewN_below w8 nq)
        have hw7 := hw6'.trans (To.of (drewN_below w8 nq))
        generalize w8.drewN nq = w7 at hr7 hw7 ⊢
        go_wp2_with fail
        go_ret
        exact ⟨by unfold nameAt; rw [HK.out]; rfl, by rw [HB.out, HK.out]; simpa using hr7, hw7⟩
end Go.Proofs.YtllhimeffkefiaaGreatDoor
