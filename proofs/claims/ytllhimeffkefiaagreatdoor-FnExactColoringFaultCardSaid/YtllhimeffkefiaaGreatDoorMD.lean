/- Texts of one proof, joined in their order: each bears its own word of what it holds and on what condition. -/
import Derived.Test.YtllhimeffkefiaaGreatDoorMVh
set_option linter.unusedVariables false
set_option linter.unusedSimpArgs false
/- impl's reading of dates: the plain law, and the walk of its inner count. Condition: texts of at most 2^20 bytes. -/
set_option linter.unusedVariables false
namespace Go.Proofs.YtllhimeffkefiaaGreatDoor
open Go.RowKit Go.Sort

/-- the number of n digits -/
def digN (t : ByteArray) (i : Nat) : Nat → Int
  | 0 => 0
  | n + 1 => digN t i n * 10 + (byI t (i + n) - 48)
def digOk (t : ByteArray) (i : Nat) : Nat → Bool
  | 0 => true
  | n + 1 => digOk t i n && digB (byI t (i + n))
def numv (t : ByteArray) (i n : Nat) : Int := if digOk t i n then digN t i n else -1
theorem digB_bd {x : Int} (h : digB x = true) : 48 ≤ x ∧ x ≤ 57 := by simpa [digB] using h
theorem digN_bd (t : ByteArray) (i : Nat) : ∀ n, digOk t i n = true → 0 ≤ digN t i n ∧ digN t i n < 10 ^ n
  | 0, _ => by simp [digN]
  | n + 1, h => by
    simp only [digOk, Bool.and_eq_true] at h
    have h1 := digN_bd t i n h.1
    have h2 := digB_bd h.2
    have h3 : (10 : Int) ^ (n + 1) = 10 ^ n * 10 := Int.pow_succ ..
    simp only [digN]
    omega
theorem digOk_no {t : ByteArray} {i : Nat} : ∀ {n k : Nat}, k < n → digB (byI t (i + k)) = false → digOk t i n = false
  | 0, k, h, _ => by omega
  | n + 1, k, h, hd => by
    simp only [digOk]
    by_cases e : k = n
    · subst e; rw [hd]; simp
    · rw [digOk_no (n := n) (by omega) hd]; rfl
theorem byI_extract {t : ByteArray} {a b k : Nat} (h : a + k < b) (hb : b ≤ t.size) : byI (t.extract a b) k = byI t (a + k) := by
  have h1 : k < (t.extract a b).size := by rw [ByteArray.size_extract]; omega
  rw [byI_eq h1, byI_eq (show a + k < t.size by omega)]
  congr 2
  simp [ByteArray.getElem_extract]
theorem digOk_extract {t : ByteArray} {a b : Nat} (hb : b ≤ t.size) : ∀ (n i : Nat), a + i + n ≤ b → digOk (t.extract a b) i n = digOk t (a + i) n
  | 0, i, h => rfl
  | n + 1, i, h => by
    simp only [digOk]
    rw [digOk_extract hb n i (by omega), byI_extract (by omega) hb, Nat.add_assoc]
theorem digN_extract {t : ByteArray} {a b : Nat} (hb : b ≤ t.size) : ∀ (n i : Nat), a + i + n ≤ b → digN (t.extract a b) i n = digN t (a + i) n
  | 0, i, h => rfl
  | n + 1, i, h => by
    simp only [digN]
    rw [digN_extract hb n i (by omega), byI_extract (by omega) hb, Nat.add_assoc]
theorem numv_extract {t : ByteArray} {a b n i : Nat} (hb : b ≤ t.size) (h : a + i + n ≤ b) : numv (t.extract a b) i n = numv t (a + i) n := by
  unfold numv
  rw [digOk_extract hb n i h, digN_extract hb n i h]
theorem numv_bd (t : ByteArray) (i n : Nat) : -1 ≤ numv t i n ∧ numv t i n < 10 ^ n := by
  have hp : (0 : Int) < 10 ^ n := Int.pow_pos (by decide)
  unfold numv
  split
  · rename_i h
    have := digN_bd t i n h
    omega
  · omega

/-- a date; i: at its '@' -/
def pDate (t : ByteArray) (i : Nat) : Option (Int × Nat) :=
  if (i + 11 ≤ t.size ∧ byI t (i + 5) = 45 ∧ byI t (i + 8) = 45) ∧ 1 ≤ numv t (i + 1) 4 ∧ 1 ≤ numv t (i + 6) 2 ∧ numv t (i + 6) 2 ≤ 12 ∧ 1 ≤ numv t (i + 9) 2 ∧ numv t (i + 9) 2 ≤ mlen (numv t (i + 1) 4) (numv t (i + 6) 2) then
    some (dayNo (numv t (i + 1) 4) (numv t (i + 6) 2) (numv t (i + 9) 2), i + 11) else none
/-- a number and whether it is one -/
def NumOk (r : Nat) (t : ByteArray) (p : Option (Int × Nat)) (w : World) (e : Ending) (w' : World) : Prop :=
  ∃ n j, e = .returned (.tuple #[.int .i64 n, .bool p.isSome]) ∧ Rs w' r t j ∧ To r w w' ∧ ∀ y k, p = some (y, k) → n = y ∧ j = k

def IntS (n : Int) (w : World) (e : Ending) (w' : World) : Prop := e = .returned (.int .i64 n) ∧ w = w'

set_option maxHeartbeats 1000000 in
set_option maxRecDepth 100000 in
theorem date1_any (x : ByteArray) (hx : x.size ≤ 10) (w : World) : Calls Tryz.prog 173 #[.string x] w (IntS (numv x 0 x.size) w) := by
  go_enter Tryz.func173, Tryz.ntmps173
  go_wp2
  have hx2 : (x.size : Int) ≤ 10 := by omega
  go_loop [3, 7] (fun n i => ∃ k : Nat, k ≤ x.size ∧ i = .int .i64 k ∧ Hid (digOk x 0 k = true) ∧ n = .int .i64 (digN x 0 k)) (fun n i => x.size - (intOf i).toNat)
  case atStart => exact ⟨0, by omega, rfl, rfl, rfl⟩
  case round =>
    obtain ⟨k, hk, rfl, HO, rfl⟩ := hrel
    have hk2 : (k : Int) ≤ x.size := by omega
    by_cases hlt : k < x.size
    · obtain ⟨y, hy⟩ : ∃ y : Int, byI x k = y := ⟨_, rfl⟩
      have hy' : (x[k].toNat : Int) = y := by rw [← hy, byI_eq hlt]
      have HY := Lib.hid hy
      clear hy
      by_cases hd : digB y = true
      · obtain ⟨n, hn⟩ : ∃ n : Int, digN x 0 k = n := ⟨_, rfl⟩
        have hb := digN_bd x 0 k HO.out
        have hp : (10 : Int) ^ k ≤ 10 ^ 9 := by
          have : (10 : Nat) ^ k ≤ 10 ^ 9 := Nat.pow_le_pow_right (by decide) (by omega)
          exact_mod_cast this
        have hn0 : 0 ≤ n := by omega
        have hn1 : n ≤ 1000000000 := by rw [hn] at hb; omega
        have hdb := digB_bd hd
        have HN : Hid (digN x 0 (k + 1) = n * 10 + (y - 48)) := Lib.hid (by simp only [digN]; rw [hn, Nat.zero_add, HY.out])
        have HO' : Hid (digOk x 0 (k + 1) = true) := Lib.hid (by simp only [digOk]; rw [HO.out, Nat.zero_add, HY.out, hd]; rfl)
        rw [hn]
        clear hb hp hn
        obtain ⟨d1, d2⟩ := hdb
        go_wp2_with (go_at_call 121; refine (isDigit_any _ _).mono ?_; rintro e w' ⟨rfl, rfl⟩)
        go_round
        case rel => exact ⟨k + 1, hlt, by go_num, HO', by rw [HN.out]⟩
        case measure => simp [intOf]; omega
      · have HF : Hid (numv x 0 x.size = -1) := Lib.hid (by unfold numv; rw [if_neg (by rw [digOk_no hlt (by rw [Nat.zero_add, HY.out]; simpa using hd)]; decide)])
        have hd' : digB y = false := by simpa using hd
        clear hd
        go_wp2_with (go_at_call 121; refine (isDigit_any _ _).mono ?_; rintro e w' ⟨rfl, rfl⟩)
        go_ret
        exact ⟨by rw [HF.out]; rfl, rfl⟩
    · have hk3 : k = x.size := by omega
      subst hk3
      have HF : Hid (numv x 0 x.size = digN x 0 x.size) := Lib.hid (by unfold numv; rw [if_pos HO.out])
      go_wp2
      go_ret
      exact ⟨by rw [HF.out]; rfl, rfl⟩
def numI (x : ByteArray) : Int := numv x 0 x.size
theorem numI_eq {x : ByteArray} {n : Nat} (h : x.size = n) : numI x = numv x 0 n := by unfold numI; rw [h]
theorem date1_ext (s : ByteArray) (a b : Nat) (hx : b ≤ a + 10) (w : World) : Calls Tryz.prog 173 #[.string (s.extract a b)] w (IntS (numI (s.extract a b)) w) := date1_any _ (by rw [ByteArray.size_extract]; omega) w
set_option maxHeartbeats 8000000 in
set_option maxRecDepth 100000 in
theorem date_any (w : World) (r : Nat) (t : ByteArray) (i : Nat) (h : Rs w r t i) (hi : byI t i = 64) : Calls Tryz.prog 159 #[.pointer (some ⟨r, 0, none⟩)] w (NumOk r t (pDate t i) w) := by
  have hle := h.le
  have hsz := h.sz
  have hle2 : (i : Int) ≤ t.size := by omega
  have hsz2 : (t.size : Int) ≤ 1048576 := by omega
  have c0 := h.c0
  have c1 := h.c1
  have c2 := h.f1
  by_cases h11 : i + 11 ≤ t.size
  · have g1 : decide ((t.size : Int) - i < 11) = false := decide_eq_false (by omega)
    have b0 : i < t.size := by omega
    have b5 : i + 5 < t.size := by omega
    have b8 : i + 8 < t.size := by omega
    have b0' : (i : Int) < t.size := by omega
    have b5' : (i : Int) + 5 < t.size := by omega
    have b8' : (i : Int) + 8 < t.size := by omega
    have b11' : (i : Int) + 11 ≤ t.size := by omega
    have n5 : ((i : Int) + 5).toNat = i + 5 := by omega
    have n8 : ((i : Int) + 8).toNat = i + 8 := by omega
    have p5 : (0 : Int) ≤ (i : Int) + 5 := by omega
    have p8 : (0 : Int) ≤ (i : Int) + 8 := by omega
    have p1 : (0 : Int) ≤ (i : Int) + 1 := by omega
    have p11 : (0 : Int) ≤ (i : Int) + 11 := by omega
    have s1 : (i : Int) + 1 ≤ (i : Int) + 11 := by omega
    have n1 : ((i : Int) + 1).toNat = i + 1 := by omega
    have n11 : ((i : Int) + 11).toNat = i + 11 := by omega
    have e0 : (t[i].toNat : Int) = 64 := by rw [← byI_eq b0]; exact hi
    obtain ⟨x5, hx5⟩ : ∃ x : Int, byI t (i + 5) = x := ⟨_, rfl⟩
    obtain ⟨x8, hx8⟩ : ∃ x : Int, byI t (i + 8) = x := ⟨_, rfl⟩
    have e5 : (t[i + 5].toNat : Int) = x5 := by rw [← byI_eq b5]; exact hx5
    have e8 : (t[i + 8].toNat : Int) = x8 := by rw [← byI_eq b8]; exact hx8
    have HI := Lib.hid hi
    have H5 := Lib.hid hx5
    have H8 := Lib.hid hx8
    clear hi hx5 hx8
    by_cases h5 : x5 = 45
    · by_cases h8 : x8 = 45
      · have h5' : (x5 != 45) = false := by simpa using h5
        have h8' : (x8 != 45) = false := by simpa using h8
        go_enter Tryz.func159, Tryz.ntmps159
        go_wp2
        go_big_quiet (fail)
        have hr5 := h.below (drewN_below w nq)
        have hw5 := To.of (r := r) (drewN_below w nq)
        clear c0 c1 c2 h
        generalize w.drewN nq = w5 at hr5 hw5 ⊢
        clear nq
        have c0 := hr5.c0
        have c1 := hr5.c1
        have c2 := hr5.f1
        go_wp2
        go_big_quiet (fail)
        have hr6 := (hr5.below (drewN_below w5 nq)).set (i + 11) h11
        have hw6 := (hw5.trans (To.of (drewN_below w5 nq))).trans (To.set r _ 1 (.int .i64 ((i + 11 : Nat))))
        have e11 : ((i + 11 : Nat) : Int) = (i : Int) + 11 := by omega
        rw [e11] at hr6 hw6
        go_wp2
        clear hr5 hw5 c0 c1 c2
        generalize (w5.drewN nq).setCell ⟨r, 1, none⟩ (.int .i64 ((i : Int) + 11)) = w6 at hr6 hw6 ⊢
        clear nq
        obtain ⟨s, hs⟩ : ∃ s, t.extract (i + 1) (i + 11) = s := ⟨_, rfl⟩
        have hs10 : s.size = 10 := by rw [← hs, ByteArray.size_extract]; omega
        obtain ⟨y, hy⟩ : ∃ y, numv t (i + 1) 4 = y := ⟨_, rfl⟩
        obtain ⟨m, hm⟩ : ∃ y, numv t (i + 6) 2 = y := ⟨_, rfl⟩
        obtain ⟨d, hd⟩ : ∃ y, numv t (i + 9) 2 = y := ⟨_, rfl⟩
        have by1 := numv_bd t (i + 1) 4
        have by2 := numv_bd t (i + 6) 2
        have by3 := numv_bd t (i + 9) 2
        rw [hy] at by1
        rw [hm] at by2
        rw [hd] at by3
        have z1 : numI (s.extract 0 4) = y := by rw [numI_eq (n := 4) (by rw [ByteArray.size_extract]; omega), numv_extract (by omega) (by omega), ← hs, numv_extract (by omega) (by omega), ← hy]
        have z2 : numI (s.extract 5 7) = m := by rw [numI_eq (n := 2) (by rw [ByteArray.size_extract]; omega), numv_extract (by omega) (by omega), ← hs, numv_extract (by omega) (by omega), ← hm]
        have z3 : numI (s.extract 8 10) = d := by rw [numI_eq (n := 2) (by rw [ByteArray.size_extract]; omega), numv_extract (by omega) (by omega), ← hs, numv_extract (by omega) (by omega), ← hd]
        have Z1 := Lib.hid z1
        have Z2 := Lib.hid z2
        have Z3 := Lib.hid z3
        rw [hs]
        have hs4 : (4 : Int) ≤ s.size := by omega
        have hs7 : (7 : Int) ≤ s.size := by omega
        have hs8 : (8 : Int) ≤ s.size := by omega
        have HY := Lib.hid hy
        have HM := Lib.hid hm
        have HD := Lib.hid hd
        clear z1 z2 z3 hs hy hm hd e0 e5 e8
        go_big_quiet ((go_at_call 173; exact Calls.quiet_of_same ((date1_ext _ _ _ (by omega) _).mono fun e w' h => ⟨h.1, h.2.symm⟩)))
        rw [Z1.out, Z2.out, Z3.out]
        have hr7 := hr6.below (drewN_below w6 nq)
        have hw7 := hw6.trans (To.of (r := r) (drewN_below w6 nq))
        clear hr6 hw6 Z1 Z2 Z3 hs4 hs7 hs8 hs10
        generalize w6.drewN nq = w7 at hr7 hw7 ⊢
        clear nq
        have y9 : y ≤ 10000 := by have := by1.2; omega
        have m9 : m ≤ 100 := by have := by2.2; omega
        have d9 : d ≤ 100 := by have := by3.2; omega
        have hml := mlen_bd y m
        have HPD : Hid (pDate t i = if 1 ≤ y ∧ 1 ≤ m ∧ m ≤ 12 ∧ 1 ≤ d ∧ d ≤ mlen y m then some (dayNo y m d, i + 11) else none) := Lib.hid (by
          unfold pDate
          rw [HY.out, HM.out, HD.out]
          by_cases hc : 1 ≤ y ∧ 1 ≤ m ∧ m ≤ 12 ∧ 1 ≤ d ∧ d ≤ mlen y m
          · rw [if_pos hc, if_pos ⟨⟨h11, H5.out.trans h5, H8.out.trans h8⟩, hc⟩]
          · rw [if_neg hc, if_neg (fun q => hc q.2)])
        obtain ⟨z, hz⟩ : ∃ z, mlen y m = z := ⟨_, rfl⟩
        have HZ := Lib.hid hz
        rw [hz] at HPD hml
        clear hz HY HM HD by1 by2 by3 H5 H8 HI b0 b5 b8
        rcases (show y < 1 ∨ (¬ y < 1 ∧ m < 1) ∨ (¬ y < 1 ∧ ¬ m < 1 ∧ 12 < m) ∨ (¬ y < 1 ∧ ¬ m < 1 ∧ ¬ 12 < m ∧ d < 1) ∨ (¬ y < 1 ∧ ¬ m < 1 ∧ ¬ 12 < m ∧ ¬ d < 1 ∧ z < d) ∨ (¬ y < 1 ∧ ¬ m < 1 ∧ ¬ 12 < m ∧ ¬ d < 1 ∧ ¬ z < d) by omega) with q1 | ⟨q1, q2⟩ | ⟨q1, q2, q3⟩ | ⟨q1, q2, q3, q4⟩ | ⟨q1, q2, q3, q4, q5⟩ | ⟨q1, q2, q3, q4, q5⟩
        rotate_left 5
        · have HP : Hid (pDate t i = some (dayNo y m d, i + 11)) := Lib.hid (by rw [HPD.out]; exact if_pos (by omega))
          clear HPD
          go_wp2_with (first
            | (go_at_call 174; refine (monthDays_any y m _ (by omega) (by omega) (by omega) (by omega)).mono ?_; rintro e w8 ⟨he, hb8⟩; rw [HZ.out] at he; subst he)
            | (go_at_call 175; refine (dayNumber_any y m d _ (by omega) (by omega) (by omega) (by omega) (by omega) (by omega)).mono ?_; rintro e w9 ⟨rfl, hb9⟩))
          go_ret2
          exact ⟨_, i + 11, by rw [HP.out]; rfl, (hr7.below hb8).below hb9, (hw7.trans (To.of hb8)).trans (To.of hb9), fun y k' hy => by rw [HP.out] at hy; cases hy; exact ⟨rfl, rfl⟩⟩
        all_goals
          have HP : Hid (pDate t i = none) := Lib.hid (by rw [HPD.out]; exact if_neg (by omega))
          clear HPD
          go_wp2_with (go_at_call 174; refine (monthDays_any y m _ (by omega) (by omega) (by omega) (by omega)).mono ?_; rintro e w8 ⟨he, hb8⟩; rw [HZ.out] at he; subst he)
          go_ret2
          first
            | exact ⟨_, i + 11, by rw [HP.out]; rfl, hr7, hw7, fun y k' hy => by rw [HP.out] at hy; cases hy⟩
            | exact ⟨_, i + 11, by rw [HP.out]; rfl, hr7.below hb8, hw7.trans (To.of hb8), fun y k' hy => by rw [HP.out] at hy; cases hy⟩
      · have HP : Hid (pDate t i = none) := Lib.hid (if_neg (by rintro ⟨⟨_, _, q⟩, _⟩; rw [H8.out] at q; exact h8 q))
        have h5' : (x5 != 45) = false := by simpa using h5
        have h8' : (x8 != 45) = true := by simpa using h8
        clear h5 h8
        go_enter Tryz.func159, Tryz.ntmps159
        go_wp2
        go_big_quiet (fail)
        go_wp2
        go_ret2
        exact ⟨_, _, by rw [HP.out]; rfl, h.below (drewN_below w nq), To.of (drewN_below w nq), fun y k' hy => by rw [HP.out] at hy; cases hy⟩
    · have HP : Hid (pDate t i = none) := Lib.hid (if_neg (by rintro ⟨⟨_, q, _⟩, _⟩; rw [H5.out] at q; exact h5 q))
      have h5' : (x5 != 45) = true := by simpa using h5
      clear h5
      go_enter Tryz.func159, Tryz.ntmps159
      go_wp2
      go_big_quiet (fail)
      go_wp2
      go_ret2
      exact ⟨_, _, by rw [HP.out]; rfl, h.below (drewN_below w nq), To.of (drewN_below w nq), fun y k' hy => by rw [HP.out] at hy; cases hy⟩
  · have g1 : decide ((t.size : Int) - i < 11) = true := decide_eq_true (by omega)
    have HP : Hid (pDate t i = none) := Lib.hid (if_neg (fun q => h11 q.1.1))
    go_enter Tryz.func159, Tryz.ntmps159
    go_wp2
    go_big_quiet (fail)
    go_wp2
    go_ret2
    exact ⟨_, _, by rw [HP.out]; rfl, h.below (drewN_below w nq), To.of (drewN_below w nq), fun y k' hy => by rw [HP.out] at hy; cases hy⟩
end Go.Proofs.YtllhimeffkefiaaGreatDoor
/- The plain reading of values; rows of names and items of the call's own. No walk here. -/
set_option linter.unusedVariables false
namespace Go.Proofs.YtllhimeffkefiaaGreatDoor
open Go.RowKit Go.Sort

/-! ### the plain reading -/
abbrev Par := ByteArray → Nat → Option (Val × Nat)
/-- it does not go back -/
def Par.Fwd (f : Par) : Prop := ∀ t i y k, i ≤ t.size → f t i = some (y, k) → i ≤ k
def pItems (f : Par) (t : ByteArray) : Nat → Nat → List Val → Option (Val × Nat)
  | 0, _, _ => none
  | g + 1, j, acc => match f t j with
    | none => none
    | some (v, k) => if byI t k = 93 then some (.mk 6 0 0 e0 [] (acc ++ [v]), k + 1) else if byI t k = 44 then pItems f t g (k + 1) (acc ++ [v]) else none
def pIts (f : Par) (t : ByteArray) (j : Nat) (acc : List Val) : Option (Val × Nat) := pItems f t (t.size + 1) j acc
theorem byI_pos {t : ByteArray} {i : Nat} {c : Int} (hc : c ≠ 0) (h : byI t i = c) : i < t.size := byI_lt (by rw [h]; exact hc)
theorem pItems_fuel {f : Par} (hf : f.Fwd) (t : ByteArray) : ∀ (g g' j : Nat) (acc : List Val), j ≤ t.size → t.size < j + g → t.size < j + g' → pItems f t g j acc = pItems f t g' j acc
  | 0, g', j, acc, hj, h, h' => by omega
  | g + 1, 0, j, acc, hj, h, h' => by omega
  | g + 1, g' + 1, j, acc, hj, h, h' => by
    simp only [pItems]
    cases hv : f t j with
    | none => rfl
    | some p =>
      obtain ⟨v, k⟩ := p
      simp only []
      have := hf t j v k hj hv
      split
      · rfl
      · split
        · rename_i h1 h2
          have := byI_pos (by decide) h2
          exact pItems_fuel hf t g g' (k + 1) _ (by omega) (by omega) (by omega)
        · rfl
theorem pIts_eq {f : Par} (hf : f.Fwd) {t : ByteArray} {j : Nat} (hj : j ≤ t.size) (acc : List Val) : pIts f t j acc = match f t j with
    | none => none
    | some (v, k) => if byI t k = 93 then some (.mk 6 0 0 e0 [] (acc ++ [v]), k + 1) else if byI t k = 44 then pIts f t (k + 1) (acc ++ [v]) else none := by
  unfold pIts
  rw [pItems]
  cases hv : f t j with
  | none => rfl
  | some p =>
    obtain ⟨v, k⟩ := p
    simp only []
    have := hf t j v k hj hv
    split
    · rfl
    · split
      · rename_i h1 h2
        have := byI_pos (by decide) h2
        exact pItems_fuel hf t _ _ (k + 1) _ (by omega) (by omega) (by omega)
      · rfl
theorem pItems_fwd {f : Par} (hf : f.Fwd) (t : ByteArray) : ∀ (g j : Nat) (acc : List Val) (y : Val) (k : Nat), j ≤ t.size → pItems f t g j acc = some (y, k) → j ≤ k
  | 0, j, acc, y, k, hj, h => by cases h
  | g + 1, j, acc, y, k, hj, h => by
    simp only [pItems] at h
    cases hv : f t j with
    | none => rw [hv] at h; cases h
    | some p =>
      obtain ⟨v, l⟩ := p
      rw [hv] at h
      simp only [] at h
      have := hf t j v l hj hv
      split at h
      · cases h; omega
      · split at h
        · rename_i h1 h2
          have := byI_pos (by decide) h2
          have := pItems_fwd hf t g (l + 1) _ y k (by omega) h
          omega
        · cases h
/-- a list; i: at its '[' -/
def pList (f : Par) (t : ByteArray) (i : Nat) : Option (Val × Nat) := if byI t (i + 1) = 93 then some (.mk 6 0 0 e0 [] [], i + 2) else pIts f t (i + 1) []

/-- texts rise -/
def ltS (a b : ByteArray) : Bool := Op.bytesLess a.toList b.toList
def riseB (names : List ByteArray) (s : ByteArray) : Bool := match names.getLast? with
  | none => true
  | some l => ltS l s
def pFlds (f : Par) (t : ByteArray) : Nat → Nat → List ByteArray → List Val → Option (Val × Nat)
  | 0, _, _, _ => none
  | g + 1, j, ns, acc =>
    if nameB (nameAt t j) = true ∧ byI t (nameEnd t j) = 58 ∧ riseB ns (nameAt t j) = true then
      (match f t (nameEnd t j + 1) with
      | none => none
      | some (v, k) => if byI t k = 125 then some (.mk 7 0 0 e0 (ns ++ [nameAt t j]) (acc ++ [v]), k + 1) else if byI t k = 44 then pFlds f t g (k + 1) (ns ++ [nameAt t j]) (acc ++ [v]) else none)
    else none
def pFls (f : Par) (t : ByteArray) (j : Nat) (ns : List ByteArray) (acc : List Val) : Option (Val × Nat) := pFlds f t (t.size + 1) j ns acc
theorem nameEnd_le {t : ByteArray} {j : Nat} (h : j ≤ t.size) : j ≤ nameEnd t j ∧ nameEnd t j ≤ t.size := run_bd worB t h
theorem pFlds_fuel {f : Par} (hf : f.Fwd) (t : ByteArray) : ∀ (g g' j : Nat) (ns : List ByteArray) (acc : List Val), j ≤ t.size → t.size < j + g → t.size < j + g' → pFlds f t g j ns acc = pFlds f t g' j ns acc
  | 0, g', j, ns, acc, hj, h, h' => by omega
  | g + 1, 0, j, ns, acc, hj, h, h' => by omega
  | g + 1, g' + 1, j, ns, acc, hj, h, h' => by
    simp only [pFlds]
    by_cases hc : nameB (nameAt t j) = true ∧ byI t (nameEnd t j) = 58 ∧ riseB ns (nameAt t j) = true
    · rw [if_pos hc, if_pos hc]
      have h0 := nameEnd_le hj
      have h58 := byI_pos (by decide) hc.2.1
      cases hv : f t (nameEnd t j + 1) with
      | none => rfl
      | some p =>
        obtain ⟨v, k⟩ := p
        simp only []
        have := hf t _ v k (by omega) hv
        split
        · rfl
        · split
          · rename_i h1 h2
            have := byI_pos (by decide) h2
            exact pFlds_fuel hf t g g' (k + 1) _ _ (by omega) (by omega) (by omega)
          · rfl
    · rw [if_neg hc, if_neg hc]
theorem pFls_eq {f : Par} (hf : f.Fwd) {t : ByteArray} {j : Nat} (hj : j ≤ t.size) (ns : List ByteArray) (acc : List Val) : pFls f t j ns acc =
    if nameB (nameAt t j) = true ∧ byI t (nameEnd t j) = 58 ∧ riseB ns (nameAt t j) = true then
      (match f t (nameEnd t j + 1) with
      | none => none
      | some (v, k) => if byI t k = 125 then some (.mk 7 0 0 e0 (ns ++ [nameAt t j]) (acc ++ [v]), k + 1) else if byI t k = 44 then pFls f t (k + 1) (ns ++ [nameAt t j]) (acc ++ [v]) else none)
    else none := by
  unfold pFls
  rw [pFlds]
  by_cases hc : nameB (nameAt t j) = true ∧ byI t (nameEnd t j) = 58 ∧ riseB ns (nameAt t j) = true
  · rw [if_pos hc, if_pos hc]
    have h0 := nameEnd_le hj
    have h58 := byI_pos (by decide) hc.2.1
    cases hv : f t (nameEnd t j + 1) with
    | none => rfl
    | some p =>
      obtain ⟨v, k⟩ := p
      simp only []
      have := hf t _ v k (by omega) hv
      split
      · rfl
      · split
        · rename_i h1 h2
          have := byI_pos (by decide) h2
          exact pFlds_fuel hf t _ _ (k + 1) _ _ (by omega) (by omega) (by omega)
        · rfl
  · rw [if_neg hc, if_neg hc]
theorem pFlds_fwd {f : Par} (hf : f.Fwd) (t : ByteArray) : ∀ (g j : Nat) (ns : List ByteArray) (acc : List Val) (y : Val) (k : Nat), j ≤ t.size → pFlds f t g j ns acc = some (y, k) → j ≤ k
  | 0, j, ns, acc, y, k, hj, h => by cases h
  | g + 1, j, ns, acc, y, k, hj, h => by
    simp only [pFlds] at h
    split at h
    · rename_i hc
      have h0 := nameEnd_le hj
      have h58 := byI_pos (by decide) hc.2.1
      cases hv : f t (nameEnd t j + 1) with
      | none => rw [hv] at h; cases h
      | some p =>
        obtain ⟨v, l⟩ := p
        rw [hv] at h
        simp only [] at h
        have := hf t _ v l (by omega) hv
        split at h
        · cases h; omega
        · split at h
          · rename_i h1 h2
            have := byI_pos (by decide) h2
            have := pFlds_fwd hf t g (l + 1) _ _ y k (by omega) h
            omega
          · cases h
    · cases h
/-- fields; i: at their '{' -/
def pMap (f : Par) (t : ByteArray) (i : Nat) : Option (Val × Nat) := if byI t (i + 1) = 125 then some (.mk 7 0 0 e0 [] [], i + 2) else pFls f t (i + 1) [] []

def pSteps (t : ByteArray) : Nat → Nat → Int → List Val → Option (Val × Nat)
  | 0, _, _, _ => none
  | g + 1, j, want, acc => match pThing t j with
    | none => none
    | some (v, k) =>
      if v.kind ≠ want then none
      else if want = 8 ∧ byI t k = 62 then some (.mk 10 0 0 e0 [] (acc ++ [v]), k + 1)
      else if byI t k = 32 then pSteps t g (k + 1) (17 - want) (acc ++ [v]) else none
def pSts (t : ByteArray) (j : Nat) (want : Int) (acc : List Val) : Option (Val × Nat) := pSteps t (t.size + 1) j want acc
theorem numEnd_le {t : ByteArray} {i : Nat} (h : i ≤ t.size) : i ≤ numEnd t i ∧ numEnd t i ≤ t.size := by
  have h1 := numAt_bd h
  have h2 := run_bd digB t h1.2
  unfold numEnd
  omega
theorem pThing_fwd : Par.Fwd pThing := by
  intro t i y k hi h
  unfold pThing at h
  split at h
  · rename_i h1
    have h0 := byI_pos (by decide) h1
    have := numEnd_le (t := t) (i := i + 1) (by omega)
    cases hp : pId t (i + 1) with
    | none => rw [hp] at h; cases h
    | some n => rw [hp] at h; cases h; omega
  · split at h
    · rename_i h1
      have h0 := byI_pos (by decide) h1
      have := numEnd_le (t := t) (i := i + 1) (by omega)
      cases hp : pId t (i + 1) with
      | none => rw [hp] at h; cases h
      | some n => rw [hp] at h; cases h; omega
    · cases h
theorem pSteps_fuel (t : ByteArray) : ∀ (g g' j : Nat) (want : Int) (acc : List Val), j ≤ t.size → t.size < j + g → t.size < j + g' → pSteps t g j want acc = pSteps t g' j want acc
  | 0, g', j, want, acc, hj, h, h' => by omega
  | g + 1, 0, j, want, acc, hj, h, h' => by omega
  | g + 1, g' + 1, j, want, acc, hj, h, h' => by
    simp only [pSteps]
    cases hv : pThing t j with
    | none => rfl
    | some p =>
      obtain ⟨v, k⟩ := p
      simp only []
      have := pThing_fwd t j v k hj hv
      split
      · rfl
      · split
        · rfl
        · split
          · rename_i h1 h2 h3
            have := byI_pos (by decide) h3
            exact pSteps_fuel t g g' (k + 1) _ _ (by omega) (by omega) (by omega)
          · rfl
theorem pSts_eq {t : ByteArray} {j : Nat} (hj : j ≤ t.size) (want : Int) (acc : List Val) : pSts t j want acc = match pThing t j with
    | none => none
    | some (v, k) =>
      if v.kind ≠ want then none
      else if want = 8 ∧ byI t k = 62 then some (.mk 10 0 0 e0 [] (acc ++ [v]), k + 1)
      else if byI t k = 32 then pSts t (k + 1) (17 - want) (acc ++ [v]) else none := by
  unfold pSts
  rw [pSteps]
  cases hv : pThing t j with
  | none => rfl
  | some p =>
    obtain ⟨v, k⟩ := p
    simp only []
    have := pThing_fwd t j v k hj hv
    split
    · rfl
    · split
      · rfl
      · split
        · rename_i h1 h2 h3
          have := byI_pos (by decide) h3
          exact pSteps_fuel t _ _ (k + 1) _ _ (by omega) (by omega) (by omega)
        · rfl
theorem pSteps_fwd (t : ByteArray) : ∀ (g j : Nat) (want : Int) (acc : List Val) (y : Val) (k : Nat), j ≤ t.size → pSteps t g j want acc = some (y, k) → j ≤ k
  | 0, j, want, acc, y, k, hj, h => by cases h
  | g + 1, j, want, acc, y, k, hj, h => by
    simp only [pSteps] at h
    cases hv : pThing t j with
    | none => rw [hv] at h; cases h
    | some p =>
      obtain ⟨v, l⟩ := p
      rw [hv] at h
      simp only [] at h
      have := pThing_fwd t j v l hj hv
      split at h
      · cases h
      · split at h
        · cases h; omega
        · split at h
          · rename_i h1 h2 h3
            have := byI_pos (by decide) h3
            have := pSteps_fwd t g (l + 1) _ _ y k (by omega) h
            omega
          · cases h
/-- a path; i: at its '<' -/
def pPath (t : ByteArray) (i : Nat) : Option (Val × Nat) := pSts t (i + 1) 8 []

abbrev tNull : ByteArray := ⟨#[110, 117, 108, 108]⟩
abbrev tTrue : ByteArray := ⟨#[116, 114, 117, 101]⟩
abbrev tFalse : ByteArray := ⟨#[102, 97, 108, 115, 101]⟩
/-- a value; L, M: what a list and fields are here -/
def pValB (L M : Option (Val × Nat)) (t : ByteArray) (i : Nat) : Option (Val × Nat) :=
  if byI t i = 34 then (pQuo t i).map fun p => (flat 3 0 0 p.1, p.2)
  else if byI t i = 64 then (pDate t i).map fun p => (flat 4 p.1 0 e0, p.2)
  else if byI t i = 45 ∨ digB (byI t i) = true then (pNum t i).map fun v => (flat 2 v 0 e0, numEnd t i)
  else if byI t i = 40 then pPoint t i
  else if byI t i = 91 then L
  else if byI t i = 123 then M
  else if byI t i = 60 then pPath t i
  else if begB t i tNull then some (flat 0 0 0 e0, i + 4)
  else if begB t i tTrue then some (flat 1 1 0 e0, i + 4)
  else if begB t i tFalse then some (flat 1 0 0 e0, i + 5)
  else pThing t i
/-- a value; n: how deep lists and fields may yet stand -/
def pVal : Nat → Par
  | 0, t, i => pValB none none t i
  | n + 1, t, i => pValB (pList (pVal n) t i) (pMap (pVal n) t i) t i
theorem quoTo_fwd (t : ByteArray) : ∀ (f i : Nat) (acc : List UInt8) (s : ByteArray) (k : Nat), quoTo t f i acc = some (s, k) → i ≤ k
  | 0, i, acc, s, k, h => by cases h
  | f + 1, i, acc, s, k, h => by
    rw [quoTo] at h
    split at h
    · split at h
      · cases h; omega
      · split at h
        · split at h
          · split at h
            · have := quoTo_fwd t f _ _ s k h; omega
            · split at h
              · have := quoTo_fwd t f _ _ s k h; omega
              · cases h
          · cases h
        · split at h
          · cases h
          · have := quoTo_fwd t f _ _ s k h; omega
    · cases h
theorem pPoint_fwd {t : ByteArray} {i : Nat} {y : Val} {k : Nat} (hi : i < t.size) (h : pPoint t i = some (y, k)) : i ≤ k := by
  unfold pPoint at h
  have h1 := numEnd_le (t := t) (i := i + 1) (by omega)
  split at h
  · cases h
  · split at h
    · rename_i h2
      have := byI_pos (by decide) h2
      have h3 := numEnd_le (t := t) (i := numEnd t (i + 1) + 1) (by omega)
      unfold pPoint2 at h
      split at h
      · cases h
      · split at h
        · cases h; omega
        · cases h
    · cases h
theorem pValB_fwd {L M : Option (Val × Nat)} {t : ByteArray} {i : Nat} {y : Val} {k : Nat} (hi : i ≤ t.size) (hL : byI t i = 91 → L = some (y, k) → i ≤ k) (hM : byI t i = 123 → M = some (y, k) → i ≤ k) (h : pValB L M t i = some (y, k)) : i ≤ k := by
  unfold pValB at h
  split at h
  · cases hq : pQuo t i with
    | none => rw [hq] at h; cases h
    | some p =>
      rw [hq] at h
      cases h
      have := quoTo_fwd t _ _ _ p.1 p.2 hq
      omega
  · split at h
    · cases hq : pDate t i with
      | none => rw [hq] at h; cases h
      | some p =>
        rw [hq] at h
        cases h
        unfold pDate at hq
        split at hq
        · cases hq; simp
        · cases hq
    · split at h
      · have := numEnd_le hi
        cases hq : pNum t i with
        | none => rw [hq] at h; cases h
        | some v => rw [hq] at h; cases h; omega
      · split at h
        · rename_i h40
          exact pPoint_fwd (byI_pos (by decide) h40) h
        · split at h
          · rename_i h91
            exact hL h91 h
          · split at h
            · rename_i h123
              exact hM h123 h
            · split at h
              · rename_i h60
                have := pSteps_fwd t _ (i + 1) _ _ y k (byI_pos (by decide) h60) h
                omega
              · split at h
                · cases h; omega
                · split at h
                  · cases h; omega
                  · split at h
                    · cases h; omega
                    · exact pThing_fwd t i y k hi h
theorem pVal_fwd : ∀ n, Par.Fwd (pVal n)
  | 0, t, i, y, k, hi, h => pValB_fwd hi (fun _ h => by cases h) (fun _ h => by cases h) h
  | n + 1, t, i, y, k, hi, h => by
    refine pValB_fwd hi (fun h1 h => ?_) (fun h1 h => ?_) h
    · have := byI_pos (by decide) h1
      unfold pList at h
      split at h
      · cases h; omega
      · have := pItems_fwd (pVal_fwd n) t _ (i + 1) _ y k (by omega) h
        omega
    · have := byI_pos (by decide) h1
      unfold pMap at h
      split at h
      · cases h; omega
      · have := pFlds_fwd (pVal_fwd n) t _ (i + 1) _ _ y k (by omega) h
        omega
end Go.Proofs.YtllhimeffkefiaaGreatDoor
/- Names and items in rows of the call's own, while they grow. No walk here. -/
set_option linter.unusedVariables false
namespace Go.Proofs.YtllhimeffkefiaaGreatDoor
open Go.RowKit Go.Sort

theorem Row.cap {α : Type} {sz : Nat} (hs : 0 < sz) {E : Elem α} {w : World} {S : Nat → Prop} (hE : ∀ f x, E w S f x → E w (fun b => S b ∧ b < w.heap.size) f x) {v : Value} {xs : List α} (h : Row sz E w S v xs) : Row sz E w (fun b => S b ∧ b < w.heap.size) v xs := by
  obtain ⟨a, c, hv, hl, h⟩ := h
  refine ⟨a, c, hv, hl, fun k x hx => ?_⟩
  obtain ⟨b, o, f, ha, hS, hc, he⟩ := h k x hx
  exact ⟨b, o, f, ha, ⟨hS, lt_of_cell (hc 0 hs)⟩, hc, hE f x he⟩
mutual
theorem EV_cap (jn ji : Nat) {w : World} {S : Nat → Prop} : ∀ (x : Val) (f : Nat → Value), EV jn ji w S f x → EV jn ji w (fun b => S b ∧ b < w.heap.size) f x
  | .mk k n m s names items, f, h => by
    simp only [EV] at h ⊢
    obtain ⟨h0, h1, h2, h3, h4, hl, a, c, h5, h6⟩ := h
    refine ⟨h0, h1, h2, h3, h4.cap (by decide) (fun _ _ h => h), hl, a, c, h5, ?_⟩
    cases items with
    | nil => exact .inl rfl
    | cons y ys =>
      rcases h6 with h6 | ⟨b, o, ha, hS, hE⟩
      · cases h6
      · refine .inr ⟨b, o, ha, ⟨hS, ?_⟩, EVs_cap jn ji b _ o hE⟩
        simp only [EVs] at hE
        obtain ⟨⟨f', hc, _⟩, _⟩ := hE
        exact lt_of_cell (hc 0 (by decide))
theorem EVs_cap (jn ji : Nat) {w : World} {S : Nat → Prop} (b : Nat) : ∀ (xs : List Val) (o : Nat), EVs jn ji w S b o xs → EVs jn ji w (fun b => S b ∧ b < w.heap.size) b o xs
  | [], o, _ => by simp [EVs]
  | x :: xs, o, h => by
    simp only [EVs] at h ⊢
    obtain ⟨⟨f, hc, he⟩, hr⟩ := h
    exact ⟨⟨f, hc, EV_cap jn ji x f he⟩, EVs_cap jn ji b xs (o + 6) hr⟩
end

def c6 (f : Nat → Value) : List Value := [f 0, f 1, f 2, f 3, f 4, f 5]
theorem c6_len : ∀ (fs : List (Nat → Value)), (fs.flatMap c6).length = fs.length * 6
  | [] => rfl
  | f :: fs => by simp [List.flatMap_cons, c6, c6_len fs]; omega
theorem c6_get : ∀ (fs : List (Nat → Value)) (k : Nat) (f : Nat → Value) (j : Nat), fs[k]? = some f → j < 6 → (fs.flatMap c6)[k * 6 + j]? = some (f j)
  | [], k, f, j, h, hj => by simp at h
  | g :: fs, 0, f, j, h, hj => by
    simp at h
    subst h
    rw [List.flatMap_cons, List.getElem?_append_left (by simp [c6]; omega), Nat.zero_mul, Nat.zero_add]
    match j, hj with
    | 0, _ => rfl
    | 1, _ => rfl
    | 2, _ => rfl
    | 3, _ => rfl
    | 4, _ => rfl
    | 5, _ => rfl
  | g :: fs, k + 1, f, j, h, hj => by
    rw [List.flatMap_cons, List.getElem?_append_right (by simp [c6]; omega)]
    have := c6_get fs k f j (by simpa using h) hj
    rw [← this]
    congr 1
    simp [c6]
    omega
/-- names (at u) and items (at v) in rows of the call's own; their blocks are no older than base -/
structure Hold (jn ji T base : Nat) (w : World) (u v : Value) (ns : List ByteArray) (xs : List Val) : Prop where
  names : w.ownsRow base 9 1 u ns.length (ns.map Value.string)
  items : ∃ fs : List (Nat → Value), fs.length = xs.length ∧ w.ownsRow base T 6 v xs.length (fs.flatMap c6) ∧
    ∀ (k : Nat) (f : Nat → Value) (x : Val), fs[k]? = some f → xs[k]? = some x → EV jn ji w (fun b => base ≤ b ∧ b < w.heap.size ∧ v.ownBlock ≠ some b ∧ u.ownBlock ≠ some b) f x
  apart : ∀ g, u.ownBlock = some g → v.ownBlock ≠ some g
  szs : ∀ s ∈ ns, Sz s
theorem Hold.start (jn ji T base : Nat) (w : World) : Hold jn ji T base w (.slice none 0 0) (.slice none 0 0) [] [] :=
  ⟨World.ownsRow_nil _ _ _ _, ⟨[], rfl, World.ownsRow_nil _ _ _ _, fun k f x h => by simp at h⟩, fun g h => by simp [Value.ownBlock] at h, fun s h => by simp at h⟩
theorem own_kept {base : Nat} {e : TypeId} {size : Nat} {v : Value} {n : Nat} {xs : List Value} {w w' : World} (h : w.ownsRow base e size v n xs) (hk : ∀ b, base ≤ b → b < w.heap.size → w'.heap[b]? = w.heap[b]?) : w'.ownsRow base e size v n xs := by
  refine ⟨h.1, ?_⟩
  rcases h.2 with hn | ⟨g, cap, cur, rfl, hb, hgg, rest⟩
  · exact .inl hn
  · exact .inr ⟨g, cap, cur, rfl, hb, (hk g hb (Array.getElem?_eq_some_iff.1 hgg).1).trans hgg, rest⟩
theorem Hold.kept {jn ji T base : Nat} {w w' : World} {u v : Value} {ns : List ByteArray} {xs : List Val} (h : Hold jn ji T base w u v ns xs) (hz : w.heap.size ≤ w'.heap.size) (hk : ∀ b, base ≤ b → b < w.heap.size → w'.heap[b]? = w.heap[b]?) : Hold jn ji T base w' u v ns xs := by
  obtain ⟨fs, hl, ho, he⟩ := h.items
  exact ⟨own_kept h.names hk, ⟨fs, hl, own_kept ho hk, fun k f x hf hx => EV_mono jn ji (fun b hb => ⟨hb.1, Nat.lt_of_lt_of_le hb.2.1 hz, hb.2.2⟩) x f (EV_kept jn ji (fun b hb hlt => hk b hb.1 hlt) x f (he k f x hf hx))⟩, h.apart, h.szs⟩
theorem Hold.to {jn ji T base r : Nat} {w w' : World} {u v : Value} {ns : List ByteArray} {xs : List Val} (h : Hold jn ji T base w u v ns xs) (ht : To r w w') (hr : r < base) : Hold jn ji T base w' u v ns xs :=
  h.kept ht.size fun b hb hlt => ht.block b hlt (by omega)
theorem Hold.below {jn ji T base : Nat} {w w' : World} {u v : Value} {ns : List ByteArray} {xs : List Val} (h : Hold jn ji T base w u v ns xs) (ht : Below w.heap.size w w') : Hold jn ji T base w' u v ns xs :=
  h.kept ht.size fun b hb hlt => ht.block b hlt
theorem Hold.set {jn ji T base : Nat} {w : World} {u v : Value} {ns : List ByteArray} {xs : List Val} (h : Hold jn ji T base w u v ns xs) {a : Addr} (ha : a.block < base) (y : Value) : Hold jn ji T base (w.setCell a y) u v ns xs :=
  h.kept (by simp [World.setCell]) fun b hb hlt => Below.heap_setCell _ _ _ _ (by omega)
theorem Hold.item {jn ji T base : Nat} {W w1 : World} {u v : Value} {ns : List ByteArray} {xs : List Val} (h : Hold jn ji T base W u v ns xs) {fs : List (Nat → Value)} (hl : fs.length = xs.length) (ho : W.ownsRow base T 6 v xs.length (fs.flatMap c6))
    (he : ∀ (k : Nat) (f : Nat → Value) (x : Val), fs[k]? = some f → xs[k]? = some x → EV jn ji W (fun b => base ≤ b ∧ b < W.heap.size ∧ v.ownBlock ≠ some b ∧ u.ownBlock ≠ some b) f x)
    {f : Nat → Value} {x : Val} {g cap : Nat} (hown : w1.ownsRow base T 6 (.slice (some ⟨g, 0, none⟩) (xs.length + 1) cap) (xs.length + 1) (fs.flatMap c6 ++ c6 f)) (hgrow : W.grownBy w1 v.ownBlock) (hat : v.ownBlock = some g ∨ g = W.heap.size) (hlt : g < w1.heap.size)
    (hx : EV jn ji W (fun b => base ≤ b ∧ b < W.heap.size ∧ v.ownBlock ≠ some b ∧ u.ownBlock ≠ some b) f x) : Hold jn ji T base w1 u (.slice (some ⟨g, 0, none⟩) (xs.length + 1) cap) ns (xs ++ [x]) := by
  have hu : ∀ k, u.ownBlock = some k → k < W.heap.size := fun k hk => (h.names.lt k hk).2
  have up : ∀ f x, EV jn ji W (fun b => base ≤ b ∧ b < W.heap.size ∧ v.ownBlock ≠ some b ∧ u.ownBlock ≠ some b) f x → EV jn ji w1 (fun b => base ≤ b ∧ b < w1.heap.size ∧ (Value.slice (some ⟨g, 0, none⟩) (xs.length + 1) cap).ownBlock ≠ some b ∧ u.ownBlock ≠ some b) f x := fun f x hf => by
    refine EV_mono jn ji (fun b hb => ⟨hb.1, Nat.lt_of_lt_of_le hb.2.1 hgrow.size, ?_, hb.2.2.2⟩) x f (EV_kept jn ji (fun b hb hlt => hgrow.block b hlt (fun e => hb.2.2.1 e.symm)) x f hf)
    simp only [Value.ownBlock, ne_eq, Option.some.injEq]
    rintro rfl
    rcases hat with h1 | h1
    · exact hb.2.2.1 h1
    · omega
  refine ⟨h.names.kept hgrow ?_, ⟨fs ++ [f], by simp [hl], by simpa [List.flatMap_append] using hown, fun k f' x' hf hx' => ?_⟩, fun k hk => ?_, h.szs⟩
  · cases hu' : u.ownBlock with
    | none => exact .inl rfl
    | some k => exact .inr (fun e => h.apart k hu' e.symm)
  · by_cases e : k < fs.length
    · rw [List.getElem?_append_left e] at hf
      rw [List.getElem?_append_left (by omega)] at hx'
      exact up _ _ (he k f' x' hf hx')
    · rw [List.getElem?_append_right (by omega)] at hf
      rw [List.getElem?_append_right (by omega)] at hx'
      have e1 : k - fs.length = 0 := by
        have := (List.getElem?_eq_some_iff.1 hf).1
        simp at this
        omega
      rw [hl] at e1
      rw [hl, e1] at hf
      rw [e1] at hx'
      simp at hf hx'
      subst hf hx'
      exact up _ _ hx
  · simp only [Value.ownBlock, ne_eq, Option.some.injEq]
    rintro rfl
    rcases hat with h1 | h1
    · exact h.apart g hk h1
    · have := hu g hk
      omega
theorem Hold.name {jn ji T base : Nat} {W w1 : World} {u v : Value} {ns : List ByteArray} {xs : List Val} (h : Hold jn ji T base W u v ns xs) {s : ByteArray} (hs : Sz s) {g cap : Nat}
    (hown : w1.ownsRow base 9 1 (.slice (some ⟨g, 0, none⟩) (ns.length + 1) cap) (ns.length + 1) (ns.map Value.string ++ [.string s])) (hgrow : W.grownBy w1 u.ownBlock) (hat : u.ownBlock = some g ∨ g = W.heap.size) (hlt : g < w1.heap.size) :
    Hold jn ji T base w1 (.slice (some ⟨g, 0, none⟩) (ns.length + 1) cap) v (ns ++ [s]) xs := by
  obtain ⟨fs, hl, ho, he⟩ := h.items
  have hv : ∀ k, v.ownBlock = some k → k < W.heap.size := fun k hk => (ho.lt k hk).2
  refine ⟨by simpa using hown, ⟨fs, hl, ho.kept hgrow ?_, fun k f x hf hx => ?_⟩, fun k hk => ?_, fun t ht => ?_⟩
  · cases hu' : v.ownBlock with
    | none => exact .inl rfl
    | some k => exact .inr (fun e => h.apart k e.symm hu')
  · refine EV_mono jn ji (fun b hb => ⟨hb.1, Nat.lt_of_lt_of_le hb.2.1 hgrow.size, hb.2.2.1, ?_⟩) x f (EV_kept jn ji (fun b hb hlt => hgrow.block b hlt (fun e => hb.2.2.2 e.symm)) x f (he k f x hf hx))
    simp only [Value.ownBlock, ne_eq, Option.some.injEq]
    rintro rfl
    rcases hat with h1 | h1
    · exact hb.2.2.2 h1
    · omega
  · simp only [Value.ownBlock, Option.some.injEq] at hk
    subst hk
    intro h2
    rcases hat with h1 | h1
    · exact h.apart g h1 h2
    · have := hv g h2
      omega
  · rcases List.mem_append.1 ht with h1 | h1
    · exact h.szs t h1
    · simp at h1; subst h1; exact hs
theorem Hold.rowN {jn ji T base : Nat} {w : World} {u v : Value} {ns : List ByteArray} {xs : List Val} (h : Hold jn ji T base w u v ns xs) (hl : ns.length ≤ 9223372036854775807) : RStr w (fun b => base ≤ b) u ns := by
  rcases h.names.2 with ⟨rfl, hn⟩ | ⟨g, cap, cur, rfl, hb, hgg, hc, hm, hs, ht⟩
  · have : ns = [] := List.length_eq_zero_iff.1 hn
    subst this
    exact nilRow _ _ _ _
  · refine ⟨_, cap, rfl, hl, fun k x hx => ⟨g, 0, fun _ => .string x, rfl, hb, fun j hj => ?_, rfl, h.szs x (List.mem_of_getElem? hx)⟩⟩
    have hk : k < ns.length := (List.getElem?_eq_some_iff.1 hx).1
    have e : (cur.toList.take (ns.length * 1))[k]? = some (.string x) := by rw [ht]; simp [hx]
    rw [List.getElem?_take, if_pos (by omega)] at e
    have := World.news_of_block hgg k _ e
    rw [Addr.add_lit] at this
    rw [show 0 + k * 1 + j = 0 + k by omega]
    exact this
theorem Hold.rowI {jn ji T base : Nat} {w : World} {u v : Value} {ns : List ByteArray} {xs : List Val} (h : Hold jn ji T base w u v ns xs) (hl : xs.length ≤ 9223372036854775807) : Row 6 (EV jn ji) w (fun b => base ≤ b) v xs := by
  obtain ⟨fs, hfl, ho, he⟩ := h.items
  rcases ho.2 with ⟨rfl, hn⟩ | ⟨g, cap, cur, rfl, hb, hgg, hc, hm, hs, ht⟩
  · have : xs = [] := List.length_eq_zero_iff.1 hn
    subst this
    exact nilRow _ _ _ _
  · refine ⟨_, cap, rfl, hl, fun k x hx => ?_⟩
    have hk : k < xs.length := (List.getElem?_eq_some_iff.1 hx).1
    obtain ⟨f, hf⟩ : ∃ f, fs[k]? = some f := ⟨_, List.getElem?_eq_getElem (by omega)⟩
    refine ⟨g, 0, f, rfl, hb, fun j hj => ?_, EV_mono jn ji (fun b hb => hb.1) x f (he k f x hf hx)⟩
    have e : (cur.toList.take (xs.length * 6))[k * 6 + j]? = some (f j) := by rw [ht]; exact c6_get fs k f j hf hj
    rw [List.getElem?_take, if_pos (by omega)] at e
    have := World.news_of_block hgg (k * 6 + j) _ e
    rw [Addr.add_lit] at this
    rw [show 0 + k * 6 + j = 0 + (k * 6 + j) by omega]
    exact this
end Go.Proofs.YtllhimeffkefiaaGreatDoor
