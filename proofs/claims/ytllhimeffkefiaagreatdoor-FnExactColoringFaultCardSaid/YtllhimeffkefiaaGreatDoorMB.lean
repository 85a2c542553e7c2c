/- Texts of one proof, joined in their order: each bears its own word of what it holds and on what condition. -/
import Derived.Test.YtllhimeffkefiaaGreatDoorMA
set_option linter.unusedVariables false
set_option linter.unusedSimpArgs false
/- Letters, digits, names: the walks of both packages' tests against one plain test. No condition. -/
set_option linter.unusedVariables false
namespace Go.Proofs.YtllhimeffkefiaaGreatDoor
open Go.RowKit

def letB (n : Int) : Bool := decide (97 ≤ n ∧ n ≤ 122) || decide (65 ≤ n ∧ n ≤ 90)
def digB (n : Int) : Bool := decide (48 ≤ n ∧ n ≤ 57)
def worB (n : Int) : Bool := letB n || digB n || decide (n = 95)
/-- byte i of a text; 0 behind it -/
def byI (s : ByteArray) (i : Nat) : Int := if h : i < s.size then (s[i].toNat : Int) else 0
theorem byI_eq {s : ByteArray} {i : Nat} (h : i < s.size) : byI s i = (s[i].toNat : Int) := by unfold byI; rw [dif_pos h]
def allW (s : ByteArray) (k : Nat) : Bool := (List.range k).all fun i => worB (byI s i)
def nameB (s : ByteArray) : Bool := decide (1 ≤ s.size ∧ s.size ≤ 20) && letB (byI s 0) && allW s s.size
theorem allW_succ (s : ByteArray) (k : Nat) : allW s (k + 1) = (allW s k && worB (byI s k)) := by
  unfold allW
  rw [List.range_succ, List.all_append]
  simp
theorem allW_false {s : ByteArray} {k n : Nat} (h : k < n) (hw : worB (byI s k) = false) : allW s n = false := by
  unfold allW
  rw [List.all_eq_false]
  exact ⟨k, List.mem_range.2 h, by simp [hw]⟩

def BoolR (b : Bool) (w : World) (e : Ending) (w' : World) : Prop := e = .returned (.bool b) ∧ w = w'
theorem boolR {b c : Bool} {w : World} (h : b = c) : BoolR c w (.returned (.bool b)) w := ⟨by rw [h], rfl⟩

theorem letB_t1 {n : Int} (h : 97 ≤ n) (h' : n ≤ 122) : letB n = true := by simp [letB, h, h']
theorem letB_t2 {n : Int} (h : 65 ≤ n) (h' : n ≤ 90) : letB n = true := by simp [letB, h, h']
theorem letB_f {n : Int} (h : ¬ (97 ≤ n ∧ n ≤ 122)) (h' : ¬ (65 ≤ n ∧ n ≤ 90)) : letB n = false := by
  unfold letB; rw [decide_eq_false h, decide_eq_false h']; rfl

set_option maxHeartbeats 1000000 in
theorem isLetter_any (n : Int) (w : World) : Calls Tryz.prog 120 #[.int .u8 n] w (BoolR (letB n) w) := by
  rcases (show n < 65 ∨ (65 ≤ n ∧ n ≤ 90) ∨ (90 < n ∧ n < 97) ∨ (97 ≤ n ∧ n ≤ 122) ∨ 122 < n by omega) with h | ⟨h, h'⟩ | ⟨h, h'⟩ | ⟨h, h'⟩ | h
  all_goals
    go_enter Tryz.func120, Tryz.ntmps120
    go_wp2
    go_ret
    exact boolR (by rw [Bool.eq_iff_iff]; simp [letB]; omega)
set_option maxHeartbeats 1000000 in
theorem isDigit_any (n : Int) (w : World) : Calls Tryz.prog 121 #[.int .u8 n] w (BoolR (digB n) w) := by
  rcases (show n < 48 ∨ (48 ≤ n ∧ n ≤ 57) ∨ 57 < n by omega) with h | ⟨h, h'⟩ | h
  all_goals
    go_enter Tryz.func121, Tryz.ntmps121
    go_wp2
    go_ret
    exact boolR (by rw [Bool.eq_iff_iff]; simp [digB]; omega)
set_option maxHeartbeats 1000000 in
theorem l01Letter_any (n : Int) (w : World) : Calls Tryz.prog 115 #[.int .u8 n] w (BoolR (letB n) w) := by
  rcases (show n < 65 ∨ (65 ≤ n ∧ n ≤ 90) ∨ (90 < n ∧ n < 97) ∨ (97 ≤ n ∧ n ≤ 122) ∨ 122 < n by omega) with h | ⟨h, h'⟩ | ⟨h, h'⟩ | ⟨h, h'⟩ | h
  all_goals
    go_enter Tryz.func115, Tryz.ntmps115
    go_wp2
    go_ret
    exact boolR (by rw [Bool.eq_iff_iff]; simp [letB]; omega)
set_option maxHeartbeats 1000000 in
theorem l01Digit_any (n : Int) (w : World) : Calls Tryz.prog 116 #[.int .u8 n] w (BoolR (digB n) w) := by
  rcases (show n < 48 ∨ (48 ≤ n ∧ n ≤ 57) ∨ 57 < n by omega) with h | ⟨h, h'⟩ | h
  all_goals
    go_enter Tryz.func116, Tryz.ntmps116
    go_wp2
    go_ret
    exact boolR (by rw [Bool.eq_iff_iff]; simp [digB]; omega)

theorem nameB_len {s : ByteArray} (h : ¬ (1 ≤ s.size ∧ s.size ≤ 20)) : nameB s = false := by unfold nameB; rw [decide_eq_false h]; rfl
theorem nameB_let {s : ByteArray} (h : letB (byI s 0) = false) : nameB s = false := by unfold nameB; rw [h]; simp
theorem nameB_at {s : ByteArray} {k : Nat} (hk : k < s.size) (h : worB (byI s k) = false) : nameB s = false := by unfold nameB; rw [allW_false hk h]; simp
theorem nameB_all {s : ByteArray} (h : 1 ≤ s.size ∧ s.size ≤ 20) (h0 : letB (byI s 0) = true) (hk : allW s s.size = true) : nameB s = true := by unfold nameB; rw [decide_eq_true h, h0, hk]; rfl
theorem worB_let {n : Int} (h : letB n = true) : worB n = true := by unfold worB; rw [h]; rfl
theorem worB_dig {n : Int} (h : digB n = true) : worB n = true := by unfold worB; rw [h]; simp
theorem worB_not {n : Int} (h : letB n = false) (h' : digB n = false) (hn : ¬ n = 95) : worB n = false := by unfold worB; rw [h, h', decide_eq_false hn]; rfl


set_option maxHeartbeats 2000000 in
set_option maxRecDepth 100000 in
theorem isName_any (s : ByteArray) (w : World) : Calls Tryz.prog 107 #[.string s] w (BoolR (nameB s) w) := by
  by_cases hl : 1 ≤ s.size ∧ s.size ≤ 20
  · have HL := Lib.hid hl
    obtain ⟨hl1, hl2⟩ := hl
    have hl1' : (1 : Int) ≤ s.size := by omega
    have hl2' : (s.size : Int) ≤ 20 := by omega
    have hp : 0 < s.size := by omega
    obtain ⟨x, hx⟩ : ∃ x : Int, byI s 0 = x := ⟨_, rfl⟩
    have hx' : (s[0].toNat : Int) = x := by rw [← hx, byI_eq hp]
    have HX := Lib.hid hx
    clear hx
    by_cases hL : letB x = true
    · have hl3 : decide ((s.size : Int) < 1) = false := decide_eq_false (by omega)
      have hl4 : decide (20 < (s.size : Int)) = false := decide_eq_false (by omega)
      go_enter Tryz.func107, Tryz.ntmps107
      go_wp2_with (go_at_call 120; refine (isLetter_any _ _).mono ?_; rintro e w' ⟨rfl, rfl⟩)
      have HX' := Lib.hid hx'
      have HL' := Lib.hid hL
      clear hx' hL
      go_loop [20] (fun i => ∃ k : Nat, k ≤ s.size ∧ i = .int .i64 k ∧ Hid (allW s k = true)) (fun i => s.size - (intOf i).toNat)
      case atStart => exact ⟨0, by omega, rfl, rfl⟩
      case round =>
        obtain ⟨k, hk, rfl, hW⟩ := hrel
        by_cases hlt : k < s.size
        · obtain ⟨y, hy⟩ : ∃ y : Int, byI s k = y := ⟨_, rfl⟩
          have hy' : (s[k].toNat : Int) = y := by rw [← hy, byI_eq hlt]
          have HY := Lib.hid hy
          clear hy
          by_cases hw : worB y = true
          · have HW' : Hid (allW s (k + 1) = true) := Lib.hid (by rw [allW_succ, hW.out, HY.out, hw]; rfl)
            by_cases h1 : letB y = true
            · clear hw
              go_wp2_with (first
                | (go_at_call 120; refine (isLetter_any _ _).mono ?_; rintro e w' ⟨rfl, rfl⟩)
                | (go_at_call 121; refine (isDigit_any _ _).mono ?_; rintro e w' ⟨rfl, rfl⟩))
              go_round
              case rel => exact ⟨k + 1, by omega, by go_num, HW'⟩
              case measure => simp [intOf]; omega
            · have h1 : letB y = false := by simpa using h1
              by_cases h2 : digB y = true
              · clear hw
                go_wp2_with (first
                  | (go_at_call 120; refine (isLetter_any _ _).mono ?_; rintro e w' ⟨rfl, rfl⟩)
                  | (go_at_call 121; refine (isDigit_any _ _).mono ?_; rintro e w' ⟨rfl, rfl⟩))
                go_round
                case rel => exact ⟨k + 1, by omega, by go_num, HW'⟩
                case measure => simp [intOf]; omega
              · have h2 : digB y = false := by simpa using h2
                have h3 : y = 95 := by unfold worB at hw; rw [h1, h2] at hw; simpa using hw
                have h4 : (y != 95) = false := by rw [h3]; rfl
                clear hw h3
                go_wp2_with (first
                  | (go_at_call 120; refine (isLetter_any _ _).mono ?_; rintro e w' ⟨rfl, rfl⟩)
                  | (go_at_call 121; refine (isDigit_any _ _).mono ?_; rintro e w' ⟨rfl, rfl⟩))
                go_round
                case rel => exact ⟨k + 1, by omega, by go_num, HW'⟩
                case measure => simp [intOf]; omega
          · have HF := Lib.hid (nameB_at (s := s) hlt (by rw [HY.out]; simpa using hw))
            have h1 : letB y = false := by
              cases h : letB y with
              | false => rfl
              | true => exact absurd (worB_let h) hw
            have h2 : digB y = false := by
              cases h : digB y with
              | false => rfl
              | true => exact absurd (worB_dig h) hw
            have h4 : (y != 95) = true := by
              by_cases h : y = 95
              · exact absurd (by unfold worB; simp [h]) hw
              · simpa using h
            clear hw
            go_wp2_with (first
              | (go_at_call 120; refine (isLetter_any _ _).mono ?_; rintro e w' ⟨rfl, rfl⟩)
              | (go_at_call 121; refine (isDigit_any _ _).mono ?_; rintro e w' ⟨rfl, rfl⟩))
            go_ret
            exact boolR HF.out.symm
        · obtain rfl : k = s.size := by omega
          go_wp2
          go_ret
          exact boolR (nameB_all HL.out (by rw [HX.out]; exact HL'.out) hW.out).symm
    · have HF := Lib.hid (nameB_let (s := s) (by rw [HX.out]; simpa using hL))
      have hL : letB x = false := by simpa using hL
      have hl3 : decide ((s.size : Int) < 1) = false := decide_eq_false (by omega)
      have hl4 : decide (20 < (s.size : Int)) = false := decide_eq_false (by omega)
      go_enter Tryz.func107, Tryz.ntmps107
      go_wp2_with (go_at_call 120; refine (isLetter_any _ _).mono ?_; rintro e w' ⟨rfl, rfl⟩)
      go_ret
      exact boolR HF.out.symm
  · have HF := Lib.hid (nameB_len hl)
    by_cases h1 : s.size < 1
    · have h1' : (s.size : Int) < 1 := by omega
      go_enter Tryz.func107, Tryz.ntmps107
      go_wp2
      go_ret
      exact boolR HF.out.symm
    · have h1' : decide ((s.size : Int) < 1) = false := decide_eq_false (by omega)
      have h2' : (20 : Int) < s.size := by omega
      go_enter Tryz.func107, Tryz.ntmps107
      go_wp2
      go_ret
      exact boolR HF.out.symm
set_option maxHeartbeats 2000000 in
set_option maxRecDepth 100000 in
theorem l01Name_any (s : ByteArray) (w : World) : Calls Tryz.prog 96 #[.string s] w (BoolR (nameB s) w) := by
  by_cases hl : 1 ≤ s.size ∧ s.size ≤ 20
  · have HL := Lib.hid hl
    obtain ⟨hl1, hl2⟩ := hl
    have hl1' : (1 : Int) ≤ s.size := by omega
    have hl2' : (s.size : Int) ≤ 20 := by omega
    have hp : 0 < s.size := by omega
    obtain ⟨x, hx⟩ : ∃ x : Int, byI s 0 = x := ⟨_, rfl⟩
    have hx' : (s[0].toNat : Int) = x := by rw [← hx, byI_eq hp]
    have HX := Lib.hid hx
    clear hx
    by_cases hL : letB x = true
    · have hl3 : decide ((s.size : Int) < 1) = false := decide_eq_false (by omega)
      have hl4 : decide (20 < (s.size : Int)) = false := decide_eq_false (by omega)
      go_enter Tryz.func96, Tryz.ntmps96
      go_wp2_with (go_at_call 115; refine (l01Letter_any _ _).mono ?_; rintro e w' ⟨rfl, rfl⟩)
      have HX' := Lib.hid hx'
      have HL' := Lib.hid hL
      clear hx' hL
      go_loop [3] (fun i => ∃ k : Nat, 1 ≤ k ∧ k ≤ s.size ∧ i = .int .i64 k ∧ Hid (allW s k = true)) (fun i => s.size - (intOf i).toNat)
      case atStart => exact ⟨1, by omega, by omega, rfl, by show allW s 1 = true; rw [allW_succ, HX.out, worB_let HL'.out]; rfl⟩
      case round =>
        obtain ⟨k, hk1, hk, rfl, hW⟩ := hrel
        by_cases hlt : k < s.size
        · obtain ⟨y, hy⟩ : ∃ y : Int, byI s k = y := ⟨_, rfl⟩
          have hy' : (s[k].toNat : Int) = y := by rw [← hy, byI_eq hlt]
          have HY := Lib.hid hy
          clear hy
          by_cases hw : worB y = true
          · have HW' : Hid (allW s (k + 1) = true) := Lib.hid (by rw [allW_succ, hW.out, HY.out, hw]; rfl)
            by_cases h1 : letB y = true
            · clear hw
              go_wp2_with (first
                | (go_at_call 115; refine (l01Letter_any _ _).mono ?_; rintro e w' ⟨rfl, rfl⟩)
                | (go_at_call 116; refine (l01Digit_any _ _).mono ?_; rintro e w' ⟨rfl, rfl⟩))
              go_round
              case rel => exact ⟨k + 1, by omega, by omega, by go_num, HW'⟩
              case measure => simp [intOf]; omega
            · have h1 : letB y = false := by simpa using h1
              by_cases h2 : digB y = true
              · clear hw
                go_wp2_with (first
                  | (go_at_call 115; refine (l01Letter_any _ _).mono ?_; rintro e w' ⟨rfl, rfl⟩)
                  | (go_at_call 116; refine (l01Digit_any _ _).mono ?_; rintro e w' ⟨rfl, rfl⟩))
                go_round
                case rel => exact ⟨k + 1, by omega, by omega, by go_num, HW'⟩
                case measure => simp [intOf]; omega
              · have h2 : digB y = false := by simpa using h2
                have h3 : y = 95 := by unfold worB at hw; rw [h1, h2] at hw; simpa using hw
                have h4 : (y != 95) = false := by rw [h3]; rfl
                clear hw h3
                go_wp2_with (first
                  | (go_at_call 115; refine (l01Letter_any _ _).mono ?_; rintro e w' ⟨rfl, rfl⟩)
                  | (go_at_call 116; refine (l01Digit_any _ _).mono ?_; rintro e w' ⟨rfl, rfl⟩))
                go_round
                case rel => exact ⟨k + 1, by omega, by omega, by go_num, HW'⟩
                case measure => simp [intOf]; omega
          · have HF := Lib.hid (nameB_at (s := s) hlt (by rw [HY.out]; simpa using hw))
            have h1 : letB y = false := by
              cases h : letB y with
              | false => rfl
              | true => exact absurd (worB_let h) hw
            have h2 : digB y = false := by
              cases h : digB y with
              | false => rfl
              | true => exact absurd (worB_dig h) hw
            have h4 : (y != 95) = true := by
              by_cases h : y = 95
              · exact absurd (by unfold worB; simp [h]) hw
              · simpa using h
            clear hw
            go_wp2_with (first
              | (go_at_call 115; refine (l01Letter_any _ _).mono ?_; rintro e w' ⟨rfl, rfl⟩)
              | (go_at_call 116; refine (l01Digit_any _ _).mono ?_; rintro e w' ⟨rfl, rfl⟩))
            go_ret
            exact boolR HF.out.symm
        · obtain rfl : k = s.size := by omega
          go_wp2
          go_ret
          exact boolR (nameB_all HL.out (by rw [HX.out]; exact HL'.out) hW.out).symm
    · have HF := Lib.hid (nameB_let (s := s) (by rw [HX.out]; simpa using hL))
      have hL : letB x = false := by simpa using hL
      have hl3 : decide ((s.size : Int) < 1) = false := decide_eq_false (by omega)
      have hl4 : decide (20 < (s.size : Int)) = false := decide_eq_false (by omega)
      go_enter Tryz.func96, Tryz.ntmps96
      go_wp2_with (go_at_call 115; refine (l01Letter_any _ _).mono ?_; rintro e w' ⟨rfl, rfl⟩)
      go_ret
      exact boolR HF.out.symm
  · have HF := Lib.hid (nameB_len hl)
    by_cases h1 : s.size < 1
    · have h1' : (s.size : Int) < 1 := by omega
      go_enter Tryz.func96, Tryz.ntmps96
      go_wp2
      go_ret
      exact boolR HF.out.symm
    · have h1' : decide ((s.size : Int) < 1) = false := decide_eq_false (by omega)
      have h2' : (20 : Int) < s.size := by omega
      go_enter Tryz.func96, Tryz.ntmps96
      go_wp2
      go_ret
      exact boolR HF.out.symm
end Go.Proofs.YtllhimeffkefiaaGreatDoor
/- Days of months and years: the walks of both packages' counts against one plain count. Condition: years from 0 to 10000, months from 1 to 12, days from 0 to 100. -/
set_option linter.unusedVariables false
namespace Go.Proofs.YtllhimeffkefiaaGreatDoor
open Go.RowKit

def leapB (y : Int) : Bool := decide (y % 4 = 0) && (decide (y % 100 ≠ 0) || decide (y % 400 = 0))
def mlen (y m : Int) : Int := if m = 2 then (if leapB y then 29 else 28) else if m = 4 ∨ m = 6 ∨ m = 9 ∨ m = 11 then 30 else 31
def yday (y : Int) : Int := (y - 1) * 365 + (y - 1) / 4 - (y - 1) / 100 + (y - 1) / 400
/-- the days of the first k months -/
def mday (y : Int) : Nat → Int
  | 0 => 0
  | k + 1 => mday y k + mlen y (k + 1)
def dayNo (y m d : Int) : Int := yday y + mday y (m - 1).toNat + d - 1
theorem mlen_bd (y m : Int) : 28 ≤ mlen y m ∧ mlen y m ≤ 31 := by unfold mlen; split <;> (try split) <;> omega
theorem mday_bd (y : Int) : ∀ k : Nat, 0 ≤ mday y k ∧ mday y k ≤ 31 * k
  | 0 => by simp [mday]
  | k + 1 => by
    have := mday_bd y k
    have := mlen_bd y (k + 1)
    simp only [mday]
    push_cast
    omega
theorem yday_bd (y : Int) (h0 : 0 ≤ y) (h1 : y ≤ 10000) : -400 ≤ yday y ∧ yday y ≤ 3660000 := by unfold yday; omega

set_option maxHeartbeats 1000000 in
theorem leap_any (y : Int) (w : World) (h0 : 0 ≤ y) (h1 : y ≤ 10000) : Calls Tryz.prog 182 #[.int .i64 y] w (BoolR (leapB y) w) := by
  by_cases a : y % 4 = 0
  · by_cases b : y % 100 = 0
    · by_cases c : y % 400 = 0
      all_goals
        have HL : Hid (leapB y = decide (y % 400 = 0)) := Lib.hid (by simp [leapB, a, b])
        go_enter Tryz.func182, Tryz.ntmps182
        go_wp2
        go_ret
        exact boolR (by rw [HL.out]; simp [c])
    · have HL : Hid (leapB y = true) := Lib.hid (by simp [leapB, a, b])
      have b' : (y % 100 == 0) = false := by simpa using b
      have b'' : (y % 100 != 0) = true := by simpa using b
      go_enter Tryz.func182, Tryz.ntmps182
      go_wp2
      go_ret
      exact boolR HL.out.symm
  · have HL : Hid (leapB y = false) := Lib.hid (by simp [leapB, a])
    have a' : (y % 4 == 0) = false := by simpa using a
    go_enter Tryz.func182, Tryz.ntmps182
    go_wp2
    go_ret
    exact boolR HL.out.symm
set_option maxHeartbeats 1000000 in
theorem l01Leap_any (y : Int) (w : World) (h0 : 0 ≤ y) (h1 : y ≤ 10000) : Calls Tryz.prog 181 #[.int .i64 y] w (BoolR (leapB y) w) := by
  by_cases a : y % 4 = 0
  · by_cases b : y % 100 = 0
    · by_cases c : y % 400 = 0
      all_goals
        have HL : Hid (leapB y = decide (y % 400 = 0)) := Lib.hid (by simp [leapB, a, b])
        go_enter Tryz.func181, Tryz.ntmps181
        go_wp2
        go_ret
        exact boolR (by rw [HL.out]; simp [c])
    · have HL : Hid (leapB y = true) := Lib.hid (by simp [leapB, a, b])
      have b' : (y % 100 == 0) = false := by simpa using b
      have b'' : (y % 100 != 0) = true := by simpa using b
      go_enter Tryz.func181, Tryz.ntmps181
      go_wp2
      go_ret
      exact boolR HL.out.symm
  · have HL : Hid (leapB y = false) := Lib.hid (by simp [leapB, a])
    have a' : (y % 4 == 0) = false := by simpa using a
    go_enter Tryz.func181, Tryz.ntmps181
    go_wp2
    go_ret
    exact boolR HL.out.symm

set_option maxHeartbeats 2000000 in
set_option maxRecDepth 100000 in
theorem monthDays_any (y m : Int) (w : World) (h0 : 0 ≤ y) (h1 : y ≤ 10000) (m0 : 1 ≤ m) (m1 : m ≤ 12) : Calls Tryz.prog 174 #[.int .i64 y, .int .i64 m] w (Int1 (mlen y m) w) := by
  by_cases hm : m = 2
  · subst hm
    cases hb : leapB y with
    | true =>
      have HL : Hid (mlen y 2 = 29) := Lib.hid (by simp [mlen, hb])
      go_enter Tryz.func174, Tryz.ntmps174
      go_wp2_with (go_at_call 182; refine (leap_any _ _ h0 h1).mono ?_; rintro e w' ⟨rfl, rfl⟩)
      go_ret
      exact ⟨by rw [HL.out]; rfl, Below.refl _ _⟩
    | false =>
      have HL : Hid (mlen y 2 = 28) := Lib.hid (by simp [mlen, hb])
      go_enter Tryz.func174, Tryz.ntmps174
      go_wp2_with (go_at_call 182; refine (leap_any _ _ h0 h1).mono ?_; rintro e w' ⟨rfl, rfl⟩)
      go_ret
      exact ⟨by rw [HL.out]; rfl, Below.refl _ _⟩
  · rcases (show m = 1 ∨ m = 3 ∨ m = 4 ∨ m = 5 ∨ m = 6 ∨ m = 7 ∨ m = 8 ∨ m = 9 ∨ m = 10 ∨ m = 11 ∨ m = 12 by omega) with rfl | rfl | rfl | rfl | rfl | rfl | rfl | rfl | rfl | rfl | rfl
    all_goals
      clear hm
      go_enter Tryz.func174, Tryz.ntmps174
      go_wp2
      go_ret
      exact ⟨rfl, Below.refl _ _⟩

set_option maxHeartbeats 2000000 in
set_option maxRecDepth 100000 in
theorem l01Month_any (y m : Int) (w : World) (h0 : 0 ≤ y) (h1 : y ≤ 10000) (m0 : 1 ≤ m) (m1 : m ≤ 12) : Calls Tryz.prog 169 #[.int .i64 y, .int .i64 m] w (Int1 (mlen y m) w) := by
  by_cases hm : m = 2
  · subst hm
    cases hb : leapB y with
    | true =>
      have HL : Hid (mlen y 2 = 29) := Lib.hid (by simp [mlen, hb])
      go_enter Tryz.func169, Tryz.ntmps169
      go_wp2_with (go_at_call 181; refine (l01Leap_any _ _ h0 h1).mono ?_; rintro e w' ⟨rfl, rfl⟩)
      go_ret
      exact ⟨by rw [HL.out]; rfl, Below.refl _ _⟩
    | false =>
      have HL : Hid (mlen y 2 = 28) := Lib.hid (by simp [mlen, hb])
      go_enter Tryz.func169, Tryz.ntmps169
      go_wp2_with (go_at_call 181; refine (l01Leap_any _ _ h0 h1).mono ?_; rintro e w' ⟨rfl, rfl⟩)
      go_ret
      exact ⟨by rw [HL.out]; rfl, (Below.refl _ _).alloc (Nat.le_refl _) _⟩
  · rcases (show m = 1 ∨ m = 3 ∨ m = 4 ∨ m = 5 ∨ m = 6 ∨ m = 7 ∨ m = 8 ∨ m = 9 ∨ m = 10 ∨ m = 11 ∨ m = 12 by omega) with rfl | rfl | rfl | rfl | rfl | rfl | rfl | rfl | rfl | rfl | rfl
    all_goals
      clear hm
      go_enter Tryz.func169, Tryz.ntmps169
      go_wp2
      go_ret
      exact ⟨rfl, (Below.refl _ _).alloc (Nat.le_refl _) _⟩

set_option maxHeartbeats 1000000 in
set_option maxRecDepth 100000 in
theorem l01Days_any (y : Int) (w : World) (h0 : 1 ≤ y) (h1 : y ≤ 10000) : Calls Tryz.prog 170 #[.int .i64 y] w (Int1 (yday y) w) := by
  have g : 0 ≤ y - 1 := by omega
  go_enter Tryz.func170, Tryz.ntmps170
  go_wp2
  go_ret
  exact ⟨rfl, Below.refl _ _⟩

set_option maxHeartbeats 1000000 in
set_option maxRecDepth 100000 in
theorem dayNumber_any (y m d : Int) (w : World) (h0 : 1 ≤ y) (h1 : y ≤ 10000) (m0 : 1 ≤ m) (m1 : m ≤ 12) (d0 : 0 ≤ d) (d1 : d ≤ 100) : Calls Tryz.prog 175 #[.int .i64 y, .int .i64 m, .int .i64 d] w (Int1 (dayNo y m d) w) := by
  have g : 0 ≤ y - 1 := by omega
  have yb := yday_bd y (by omega) h1
  go_enter Tryz.func175, Tryz.ntmps175
  go_wp2
  go_loopw [8, 9] (fun n i wr => ∃ k : Nat, 1 ≤ k ∧ (k : Int) ≤ m ∧ i = .int .i64 k ∧ n = .int .i64 (yday y + mday y (k - 1)) ∧ Below w.heap.size w wr) (fun _ i _ => (m - intOf i).toNat)
  case atStart => exact ⟨1, by omega, by omega, rfl, by simp [mday, yday], Below.refl _ _⟩
  case round =>
    obtain ⟨k, hk, hkm, rfl, rfl, hnx⟩ := hrel
    have mb := mday_bd y (k - 1)
    have lb := mlen_bd y k
    have HS : Hid (mday y k = mday y (k - 1) + mlen y k) := Lib.hid (by
      obtain ⟨j, rfl⟩ : ∃ j, k = j + 1 := ⟨k - 1, by omega⟩
      rfl)
    by_cases hlt : (k : Int) < m
    · go_wp2_with (go_at_call 174; refine (monthDays_any _ _ _ (by omega) h1 (by omega) (by omega)).mono ?_; rintro e w' ⟨rfl, hb⟩)
      go_roundw
      case rel => exact ⟨k + 1, by omega, by omega, by go_num, by rw [Nat.add_sub_cancel, HS.out]; congr 1 <;> omega, hnx.trans (hb.mono hnx.size)⟩
      case measure => simp [intOf]; omega
    · obtain rfl : m = k := by omega
      go_wp2
      go_ret
      exact ⟨by unfold dayNo; rw [show ((k : Int) - 1).toNat = k - 1 by omega]; rfl, hnx⟩
end Go.Proofs.YtllhimeffkefiaaGreatDoor
