/- Texts of one proof, joined in their order: each bears its own word of what it holds and on what condition. -/
import Derived.Test.YtllhimeffkefiaaGreatDoorMC
import Derived.Lib.ItoaLen
set_option linter.unusedVariables false
set_option linter.unusedSimpArgs false
/- The specification's reader: its state; what it begins with, what it takes, how it fails. Condition: texts of at most 2^20 bytes. -/
set_option linter.unusedVariables false
namespace Go.Proofs.YtllhimeffkefiaaGreatDoor
open Go.RowKit Go.Sort

/-- a reader of the specification's at block r: its text, its place, whether it has failed -/
structure Sr (w : World) (r : Nat) (t : ByteArray) (i : Nat) (b : Bool) : Prop where
  c0 : w.cell? ⟨r, 0, none⟩ = some (.string t)
  c1 : w.cell? ⟨r, 1, none⟩ = some (.int .i64 i)
  c2 : w.cell? ⟨r, 2, none⟩ = some (.bool b)
  f1 : w.frozen? ⟨r, 1, none⟩ = false
  f2 : w.frozen? ⟨r, 2, none⟩ = false
  le : i ≤ t.size
  sz : t.size ≤ 1048576
theorem Sr.lt {w : World} {r : Nat} {t : ByteArray} {i : Nat} {b : Bool} (h : Sr w r t i b) : r < w.heap.size := lt_of_cell h.c0
theorem Sr.same {w w' : World} {r : Nat} {t : ByteArray} {i : Nat} {b : Bool} (h : Sr w r t i b) (hb : w'.heap[r]? = w.heap[r]?) : Sr w' r t i b :=
  ⟨(World.cell?_of_block (a := ⟨r, 0, none⟩) hb).trans h.c0, (World.cell?_of_block (a := ⟨r, 1, none⟩) hb).trans h.c1, (World.cell?_of_block (a := ⟨r, 2, none⟩) hb).trans h.c2, (World.frozen?_of_block (a := ⟨r, 1, none⟩) hb).trans h.f1, (World.frozen?_of_block (a := ⟨r, 2, none⟩) hb).trans h.f2, h.le, h.sz⟩
theorem Sr.below {w w' : World} {r : Nat} {t : ByteArray} {i : Nat} {b : Bool} (h : Sr w r t i b) (hb : Below w.heap.size w w') : Sr w' r t i b := h.same (hb.block r h.lt)
theorem Sr.set {w : World} {r : Nat} {t : ByteArray} {i : Nat} {b : Bool} (h : Sr w r t i b) (j : Nat) (hj : j ≤ t.size) : Sr (w.setCell ⟨r, 1, none⟩ (.int .i64 j)) r t j b :=
  ⟨(World.cell?_setCell_other _ _ _ _ (by simp)).trans h.c0, World.cell?_setCell_same _ _ _ h.c1, (World.cell?_setCell_other _ _ _ _ (by simp)).trans h.c2, (World.frozen?_setCell _ _ _ _).trans h.f1, (World.frozen?_setCell _ _ _ _).trans h.f2, hj, h.sz⟩
theorem Sr.flag {w : World} {r : Nat} {t : ByteArray} {i : Nat} {b : Bool} (h : Sr w r t i b) (c : Bool) : Sr (w.setCell ⟨r, 2, none⟩ (.bool c)) r t i c :=
  ⟨(World.cell?_setCell_other _ _ _ _ (by simp)).trans h.c0, (World.cell?_setCell_other _ _ _ _ (by simp)).trans h.c1, World.cell?_setCell_same _ _ _ h.c2, (World.frozen?_setCell _ _ _ _).trans h.f1, (World.frozen?_setCell _ _ _ _).trans h.f2, h.le, h.sz⟩
theorem Sr.other {w : World} {r : Nat} {t : ByteArray} {i : Nat} {b : Bool} (h : Sr w r t i b) {a : Addr} (ha : a.block ≠ r) (v : Value) : Sr (w.setCell a v) r t i b := h.same (Below.heap_setCell _ _ _ _ ha.symm)
theorem Sr.sets {r : Nat} {t : ByteArray} {i : Nat} {b : Bool} {g : Nat} (hg : g ≠ r) : ∀ (us : List Value) (o : Nat) {w : World}, Sr w r t i b → Sr (sets w g o us) r t i b
  | [], o, w, h => h
  | u :: us, o, w, h => Sr.sets hg us (o + 1) (h.other (a := ⟨g, o, none⟩) hg u)
theorem Sr.alloc {w : World} {r : Nat} {t : ByteArray} {i : Nat} {b : Bool} (h : Sr w r t i b) (o : Obj) : Sr (w.alloc o) r t i b := h.below ((Below.refl _ w).alloc (Nat.le_refl _) o)

theorem pre_iff (s p : ByteArray) (h : p.size ≤ s.size) : ((s.extract 0 p.size).toList == p.toList) = Lib.hasPrefix s.data.toList p.data.toList := by
  unfold Lib.hasPrefix
  rw [ByteArray.toList_eq, ByteArray.toList_eq, ByteArray.data_extract, Array.toList_extract]
  simp only [List.extract_eq_take_drop, List.drop_zero, Nat.sub_zero]
  rw [Bool.eq_iff_iff, beq_iff_eq, List.isPrefixOf_iff_prefix, List.prefix_iff_eq_take]
  rw [show p.data.toList.length = p.size from Array.length_toList]
  exact eq_comm
theorem pre_no (s p : ByteArray) (h : ¬ p.size ≤ s.size) : Lib.hasPrefix s.data.toList p.data.toList = false := by
  unfold Lib.hasPrefix
  rw [← Bool.not_eq_true, List.isPrefixOf_iff_prefix]
  intro hp
  have := hp.length_le
  rw [Array.length_toList, Array.length_toList] at this
  exact h this

set_option maxHeartbeats 1000000 in
set_option maxRecDepth 100000 in
theorem begins_any (s p : ByteArray) (hs : s.size ≤ 1048576) (hp : p.size ≤ 1048576) (w : World) : Calls Tryz.prog 167 #[.string s, .string p] w (BoolR (Lib.hasPrefix s.data.toList p.data.toList) w) := by
  by_cases h : p.size ≤ s.size
  · have HP := Lib.hid (pre_iff s p h)
    have h1 : (p.size : Int) ≤ s.size := by omega
    have g1 : decide ((p.size : Int) ≤ s.size) = true := decide_eq_true h1
    go_enter Tryz.func167, Tryz.ntmps167
    go_wp2
    go_ret
    exact boolR (by rw [← HP.out])
  · have HP := Lib.hid (pre_no s p h)
    have g1 : decide ((p.size : Int) ≤ s.size) = false := decide_eq_false (by omega)
    go_enter Tryz.func167, Tryz.ntmps167
    go_wp2
    go_ret
    exact boolR (by rw [← HP.out])

/-- it says b; the reader stands at i -/
def TkR (r : Nat) (t : ByteArray) (b : Bool) (i : Nat) (c : Bool) (w : World) (e : Ending) (w' : World) : Prop := e = .returned (.bool b) ∧ Sr w' r t i c ∧ To r w w'

theorem beg_is (t p : ByteArray) (i : Nat) (b : Bool) (hb : begB t i p = b) (ht : t.size ≤ 1048576) (hp : p.size ≤ 1048576) (w : World) : Calls Tryz.prog 167 #[.string (t.extract i t.size), .string p] w (BoolR b w) := by
  have := begins_any (t.extract i t.size) p (by rw [ByteArray.size_extract]; omega) hp w
  rw [show Lib.hasPrefix (t.extract i t.size).data.toList p.data.toList = b from hb] at this
  exact this
set_option maxHeartbeats 1000000 in
set_option maxRecDepth 100000 in
theorem takes_bad (w : World) (r : Nat) (t : ByteArray) (i : Nat) (p : ByteArray) (h : Sr w r t i true) : Calls Tryz.prog 149 #[.pointer (some ⟨r, 0, none⟩), .string p] w (TkR r t false i true w) := by
  have c2 := h.c2
  go_enter Tryz.func149, Tryz.ntmps149
  go_wp2_with fail
  go_big_quiet (fail)
  go_wp2
  go_ret
  exact ⟨rfl, h.below (drewN_below w _), To.of (drewN_below w _)⟩
set_option maxHeartbeats 1000000 in
set_option maxRecDepth 100000 in
theorem takes_no (w : World) (r : Nat) (t : ByteArray) (i : Nat) (p : ByteArray) (h : Sr w r t i false) (hp : p.size ≤ 1048576) (hb : begB t i p = false) : Calls Tryz.prog 149 #[.pointer (some ⟨r, 0, none⟩), .string p] w (TkR r t false i false w) := by
  have c0 := h.c0
  have c1 := h.c1
  have c2 := h.c2
  have hle : (i : Int) ≤ t.size := by have := h.le; omega
  have hsz := h.sz
  have HB := Lib.hid hb
  clear hb
  go_enter Tryz.func149, Tryz.ntmps149
  go_wp2_with fail
  go_big_quiet ((go_at_call 167; exact Calls.quiet_of_same ((beg_is t p i _ HB.out hsz hp _).mono fun e w' h => ⟨h.1, h.2.symm⟩)))
  go_wp2
  go_ret
  exact ⟨rfl, h.below (drewN_below w _), To.of (drewN_below w _)⟩
set_option maxHeartbeats 1000000 in
set_option maxRecDepth 100000 in
theorem takes_yes (w : World) (r : Nat) (t : ByteArray) (i : Nat) (p : ByteArray) (h : Sr w r t i false) (hp : p.size ≤ 1048576) (hb : begB t i p = true) : Calls Tryz.prog 149 #[.pointer (some ⟨r, 0, none⟩), .string p] w (TkR r t true (i + p.size) false w) := by
  have c0 := h.c0
  have c1 := h.c1
  have c2 := h.c2
  have f1 := h.f1
  have hle : (i : Int) ≤ t.size := by have := h.le; omega
  have hsz := h.sz
  have hl := begB_len hb h.le
  have hz : (i : Int) + p.size ≤ 1048576 := by have := h.sz; omega
  have HB := Lib.hid hb
  clear hb
  go_enter Tryz.func149, Tryz.ntmps149
  go_wp2_with fail
  go_big_quiet ((go_at_call 167; exact Calls.quiet_of_same ((beg_is t p i _ HB.out hsz hp _).mono fun e w' h => ⟨h.1, h.2.symm⟩)))
  go_wp2
  go_ret
  have hs := (h.below (drewN_below w nq)).set (i + p.size) hl
  push_cast at hs
  exact ⟨rfl, hs, (To.of (drewN_below w nq)).trans (To.set r _ 1 _)⟩
/-- whatever it says -/
theorem take1_yes (w : World) (r : Nat) (t : ByteArray) (i : Nat) (c : UInt8) (h : Sr w r t i false) (hc : c.toNat ≠ 0) (hb : byI t i = c.toNat) : Calls Tryz.prog 149 #[.pointer (some ⟨r, 0, none⟩), .string ⟨#[c]⟩] w (TkR r t true (i + 1) false w) :=
  takes_yes w r t i ⟨#[c]⟩ h (show (1 : Nat) ≤ 1048576 by decide) (by rw [begB_one t i c hc, decide_eq_true hb])
theorem take1_no (w : World) (r : Nat) (t : ByteArray) (i : Nat) (c : UInt8) (h : Sr w r t i false) (hc : c.toNat ≠ 0) (hb : ¬ byI t i = c.toNat) : Calls Tryz.prog 149 #[.pointer (some ⟨r, 0, none⟩), .string ⟨#[c]⟩] w (TkR r t false i false w) :=
  takes_no w r t i ⟨#[c]⟩ h (show (1 : Nat) ≤ 1048576 by decide) (by rw [begB_one t i c hc, decide_eq_false hb])

/-- a failed value -/
def bad6 : Value := .agg #[.int .i64 (-1), .int .i64 0, .int .i64 0, .string e0, .slice none 0 0, .slice none 0 0]
def FailR (r : Nat) (t : ByteArray) (i : Nat) (w : World) (e : Ending) (w' : World) : Prop := e = .returned bad6 ∧ Sr w' r t i true ∧ To r w w'
set_option maxHeartbeats 1000000 in
set_option maxRecDepth 100000 in
theorem fail_any (w : World) (r : Nat) (t : ByteArray) (i : Nat) (b : Bool) (h : Sr w r t i b) : Calls Tryz.prog 148 #[.pointer (some ⟨r, 0, none⟩)] w (FailR r t i w) := by
  have c2 := h.c2
  have f2 := h.f2
  have hlt := h.lt
  have ha := (To.alloc r w (.cells #[.int .i64 0, .int .i64 0, .int .i64 0, .string ⟨#[]⟩, .slice none 0 0, .slice none 0 0] 179))
  have h0 := h.alloc (.cells #[.int .i64 0, .int .i64 0, .int .i64 0, .string ⟨#[]⟩, .slice none 0 0, .slice none 0 0] 179)
  go_enter Tryz.func148, Tryz.ntmps148
  go_wp2
  exact bodyPost_ret (v := bad6) (by simp [results, Tryz.results148, go_sem, bad6]) rfl ⟨rfl, (h.flag true).alloc _, (To.set r w 2 _).trans (To.alloc r _ _)⟩
end Go.Proofs.YtllhimeffkefiaaGreatDoor
/- The specification's numerals. Condition: none. -/
set_option linter.unusedVariables false
namespace Go.Proofs.YtllhimeffkefiaaGreatDoor
open Go.RowKit Go.Sort

theorem itoa_small {n : Int} (h0 : 0 ≤ n) (h1 : n < 10) : Lib.itoa n = [UInt8.ofNat (48 + n).toNat] := by
  unfold Lib.itoa
  rw [if_neg (by omega), Lib.decDigits, dif_pos (by omega), show (48 + n).toNat = 48 + n.toNat by omega]
theorem itoa_big {n : Int} (h : 10 ≤ n) : Lib.itoa n = Lib.itoa (n / 10) ++ [UInt8.ofNat (48 + n % 10).toNat] := by
  unfold Lib.itoa
  rw [if_neg (by omega), if_neg (by omega), Lib.decDigits, dif_neg (by omega), show (n / 10).toNat = n.toNat / 10 by omega, show (48 + n % 10).toNat = 48 + n.toNat % 10 by omega]
theorem itoa_less {n : Int} (h0 : n < 0) : Lib.itoa n = 45 :: Lib.itoa (-n) := by
  unfold Lib.itoa
  rw [if_pos h0, if_neg (by omega), show (-n).toNat = n.natAbs by omega]
theorem itoa_less_big {n : Int} (h : n ≤ -10) : Lib.itoa n = Lib.itoa (-(-n / 10)) ++ [UInt8.ofNat (48 + -n % 10).toNat] := by
  rw [itoa_less (by omega), itoa_big (by omega), itoa_less (n := -(-n / 10)) (by omega), Int.neg_neg]
  rfl

theorem conv_one (x : Int) (h0 : 0 ≤ x) (h1 : x < 256) (w : World) (b : Nat) (hc : w.cell? ⟨b, 0, none⟩ = some (.int .u8 x)) : (convert 155 9 (.slice (some ⟨b, 0, none⟩) 1 1)).run Tryz.prog w = .ok (.string ⟨#[UInt8.ofNat x.toNat]⟩) w := by
  refine run_convert_bytes_back w 155 9 5 ⟨b, 0, none⟩ 1 [UInt8.ofNat x.toNat] Tryz.underlying155 Tryz.underlying5 Tryz.underlying9 (fun j hj => ?_)
  have : j = 0 := by simp at hj; omega
  subst this
  show w.cell? ⟨b, 0, none⟩ = _
  rw [hc]
  simp
  omega
theorem bcell' {W w1 : World} (h : Below W.heap.size W w1) : ∀ b o, b < W.heap.size → w1.cell? ⟨b, o, none⟩ = W.cell? ⟨b, o, none⟩ := fun b o hb => World.cell?_of_block (a := ⟨b, o, none⟩) (h.block b hb)
theorem wrap64_of (n : Int) (h0 : -9223372036854775808 ≤ n) (h1 : n ≤ 9223372036854775807) : IntKind.i64.wrap n = n := by
  simp [IntKind.wrap, IntKind.bits, IntKind.signed]
  split <;> omega
theorem wrap8_of (n : Int) (h0 : 0 ≤ n) (h1 : n < 256) : IntKind.u8.wrap n = n := by
  simp [IntKind.wrap, IntKind.bits, IntKind.signed]
  omega
theorem decS_add (l : List UInt8) (x : UInt8) : (⟨l.toArray⟩ : ByteArray) ++ ⟨#[x]⟩ = ⟨(l ++ [x]).toArray⟩ := toList_inj' (by simp)
theorem decS_neg (l : List UInt8) : (⟨#[45]⟩ : ByteArray) ++ ⟨l.toArray⟩ = ⟨(45 :: l).toArray⟩ := toList_inj' (by simp)
theorem decS_size (n : Int) (h0 : -9223372036854775808 ≤ n) (h1 : n ≤ 9223372036854775807) : (decS n).size ≤ 21 := by
  have := Lib.itoa_length_le n h0 h1
  unfold decS
  show (Lib.itoa n).toArray.size ≤ 21
  simpa using this
theorem below_drew' (w : World) : Below w.heap.size w w.drew := ⟨rfl, rfl, rfl, Nat.le_refl _, fun _ _ => rfl⟩
def ChR (n : Int) (w : World) : Prop := Calls Tryz.prog 171 #[.int .i64 n] w (StrR (decS n) w)

set_option maxHeartbeats 400000 in
set_option maxRecDepth 100000 in
theorem dec_less (n : Int) (h0 : n < 0) (h1 : -10 < n) (ih : ∀ w, ChR (-n) w) (w : World) : ChR n w := by
  unfold ChR at *
  have HS : Hid ((⟨#[45]⟩ : ByteArray) ++ decS (-n) = decS n) := Lib.hid (by unfold decS; rw [decS_neg, itoa_less h0])
  have g1 : decide (n < 0) = true := decide_eq_true h0
  have g2 : decide (-10 < n) = true := decide_eq_true h1
  have hz := decS_size (-n) (by omega) (by omega)
  have hz2 : ¬ 9223372036854775807 < 1 + (decS (-n)).size := by omega
  go_enter Tryz.func171, Tryz.ntmps171
  go_wp2_with (go_at_call 171; refine (ih _).mono ?_; rintro e w1 ⟨rfl, hb1⟩)
  go_ret
  exact ⟨by rw [← HS.out]; rfl, hb1⟩
set_option maxHeartbeats 400000 in
set_option maxRecDepth 100000 in
theorem dec_small (n : Int) (h0 : 0 ≤ n) (h1 : n < 10) (w : World) : ChR n w := by
  unfold ChR
  have HS : Hid ((⟨#[UInt8.ofNat (48 + n).toNat]⟩ : ByteArray) = decS n) := Lib.hid (by unfold decS; rw [itoa_small h0 h1])
  have hcv := conv_one (48 + n) (by omega) (by omega)
  have g1 : decide (n < 0) = false := decide_eq_false (by omega)
  have g2 : decide (n < 10) = true := decide_eq_true h1
  go_enter Tryz.func171, Tryz.ntmps171
  go_wp2
  go_ret
  exact ⟨by rw [← HS.out]; rfl, (Below.refl _ w).alloc (Nat.le_refl _) _⟩
set_option maxHeartbeats 400000 in
set_option maxRecDepth 100000 in
theorem dec_big (n : Int) (h0 : 10 ≤ n) (h1 : n ≤ 9223372036854775807) (ih : ∀ w, ChR (n / 10) w) (w : World) : ChR n w := by
  unfold ChR at *
  obtain ⟨q, hq⟩ : ∃ q, n / 10 = q := ⟨_, rfl⟩
  obtain ⟨m, hm⟩ : ∃ m, n % 10 = m := ⟨_, rfl⟩
  have HS : Hid (decS q ++ (⟨#[UInt8.ofNat (48 + m).toNat]⟩ : ByteArray) = decS n) := Lib.hid (by unfold decS; rw [decS_add, ← hq, ← hm, ← itoa_big h0])
  have eq1 : n.tdiv 10 = q := by rw [Int.tdiv_eq_ediv_of_nonneg (by omega), hq]
  have em1 : n.tmod 10 = m := by rw [Int.tmod_eq_emod_of_nonneg (by omega), hm]
  have q0 : 0 ≤ q := by omega
  have q1 : q ≤ 922337203685477580 := by omega
  have m0 : 0 ≤ m := by omega
  have m1 : m < 10 := by omega
  rw [hq] at ih
  have g1 : decide (n < 0) = false := decide_eq_false (by omega)
  have g2 : decide (n < 10) = false := decide_eq_false (by omega)
  have z1 : IntKind.i64.wrap q = q := wrap64_of q (by omega) (by omega)
  have z2 : IntKind.i64.wrap (48 + m) = 48 + m := wrap64_of _ (by omega) (by omega)
  have z3 : IntKind.u8.wrap (48 + m) = 48 + m := wrap8_of _ (by omega) (by omega)
  have hz := decS_size q (by omega) (by omega)
  have hz2 : ¬ 9223372036854775807 < (decS q).size + 1 := by omega
  clear hq hm
  have hcv := conv_one (48 + m) (by omega) (by omega)
  go_enter Tryz.func171, Tryz.ntmps171
  go_wp2_with fail
  go_region_with (go_at_call 171; refine (ih _).mono ?_; rintro e w1 ⟨rfl, hb1⟩; have hc1 := bcell' hb1)
  all_goals go_wp2
  all_goals go_ret
  all_goals refine ⟨by rw [← HS.out]; rfl, ?_⟩
  · have hx := (below_drew' w).trans hb1
    exact hx.alloc hx.size _
  all_goals exact ((below_drew' w).alloc (Nat.le_refl _) _).trans (hb1.mono (by simp))
set_option maxHeartbeats 400000 in
set_option maxRecDepth 100000 in
theorem dec_less_big (n : Int) (h0 : n ≤ -10) (h1 : -9223372036854775808 ≤ n) (ih : ∀ w, ChR (-(-n / 10)) w) (w : World) : ChR n w := by
  unfold ChR at *
  obtain ⟨q, hq⟩ : ∃ q, -(-n / 10) = q := ⟨_, rfl⟩
  obtain ⟨m, hm⟩ : ∃ m, -n % 10 = m := ⟨_, rfl⟩
  have HS : Hid (decS q ++ (⟨#[UInt8.ofNat (48 + m).toNat]⟩ : ByteArray) = decS n) := Lib.hid (by unfold decS; rw [decS_add, ← hq, ← hm, ← itoa_less_big h0])
  have eq1 : n.tdiv 10 = q := by rw [show n = -(-n) by omega, Int.neg_tdiv, Int.tdiv_eq_ediv_of_nonneg (by omega), hq]
  have em1 : n.tmod 10 = -m := by rw [show n = -(-n) by omega, Int.neg_tmod, Int.tmod_eq_emod_of_nonneg (by omega), hm]
  have q0 : -922337203685477580 ≤ q := by omega
  have q1 : q ≤ 0 := by omega
  have m0 : 0 ≤ m := by omega
  have m1 : m < 10 := by omega
  rw [hq] at ih
  have g1 : decide (n < 0) = true := decide_eq_true (by omega)
  have g2 : decide (-10 < n) = false := decide_eq_false (by omega)
  have z4 : (48 : Int) - -m = 48 + m := by omega
  have z1 : IntKind.i64.wrap q = q := wrap64_of q (by omega) (by omega)
  have z2 : IntKind.i64.wrap (48 + m) = 48 + m := wrap64_of _ (by omega) (by omega)
  have z3 : IntKind.u8.wrap (48 + m) = 48 + m := wrap8_of _ (by omega) (by omega)
  have hz := decS_size q (by omega) (by omega)
  have hz2 : ¬ 9223372036854775807 < (decS q).size + 1 := by omega
  clear hq hm
  have hcv := conv_one (48 + m) (by omega) (by omega)
  go_enter Tryz.func171, Tryz.ntmps171
  go_wp2_with fail
  go_region_with (go_at_call 171; refine (ih _).mono ?_; rintro e w1 ⟨rfl, hb1⟩; have hc1 := bcell' hb1)
  all_goals go_wp2
  all_goals go_ret
  all_goals refine ⟨by rw [← HS.out]; rfl, ?_⟩
  · have hx := (below_drew' w).trans hb1
    exact hx.alloc hx.size _
  all_goals exact ((below_drew' w).alloc (Nat.le_refl _) _).trans (hb1.mono (by simp))
theorem dec_nat : ∀ (f : Nat) (n : Int), n.toNat < f → 0 ≤ n → n ≤ 9223372036854775807 → ∀ w, ChR n w
  | 0, n, h, _, _, w => by omega
  | f + 1, n, hf, h0, h1, w => by
    by_cases h10 : n < 10
    · exact dec_small n h0 h10 w
    · exact dec_big n (by omega) h1 (dec_nat f (n / 10) (by omega) (by omega) (by omega)) w
theorem dec_neg : ∀ (f : Nat) (n : Int), n.natAbs < f → n < 0 → -9223372036854775808 ≤ n → ∀ w, ChR n w
  | 0, n, h, _, _, w => by omega
  | f + 1, n, hf, h0, h1, w => by
    by_cases h10 : -10 < n
    · exact dec_less n h0 h10 (dec_nat _ (-n) (Nat.lt_succ_self _) (by omega) (by omega)) w
    · exact dec_less_big n (by omega) h1 (dec_neg f (-(-n / 10)) (by omega) (by omega) (by omega)) w
theorem dec_any (n : Int) (h0 : -9223372036854775808 ≤ n) (h1 : n ≤ 9223372036854775807) (w : World) : Calls Tryz.prog 171 #[.int .i64 n] w (StrR (decS n) w) := by
  by_cases hn : n < 0
  · exact dec_neg _ n (Nat.lt_succ_self _) hn h0 w
  · exact dec_nat _ n (Nat.lt_succ_self _) (by omega) h1 w
end Go.Proofs.YtllhimeffkefiaaGreatDoor
/- What the specification reckons of a number's bytes is what the canonical reading says. No condition. -/
set_option linter.unusedVariables false
namespace Go.Proofs.YtllhimeffkefiaaGreatDoor
open Go.RowKit Go.Sort

theorem wrap64_eq (x : Int) : IntKind.i64.wrap x = (x + 9223372036854775808) % 18446744073709551616 - 9223372036854775808 := by
  simp [IntKind.wrap, IntKind.bits, IntKind.signed]
  split <;> omega
theorem wrap64_rng (x : Int) : -9223372036854775808 ≤ IntKind.i64.wrap x ∧ IntKind.i64.wrap x ≤ 9223372036854775807 := by
  rw [wrap64_eq]; omega
/-- what is reckoned of k digits from place a on -/
def nfold (t : ByteArray) (a : Nat) : Nat → Int
  | 0 => 0
  | k + 1 => IntKind.i64.wrap (IntKind.i64.wrap (nfold t a k * 10) + (byI t (a + k) - 48))
theorem nfold_rng (t : ByteArray) (a k : Nat) : -9223372036854775808 ≤ nfold t a k ∧ nfold t a k ≤ 9223372036854775807 := by
  cases k with
  | zero => simp [nfold]
  | succ k => exact wrap64_rng _
def dfold (acc : Nat) (l : List UInt8) : Nat := l.foldl (fun a c => a * 10 + (c.toNat - 48)) acc
theorem parse_dfold (M : Nat) : ∀ (l : List UInt8) (acc u : Nat), Lib.parseUintM M acc l = .ok u → u = dfold acc l
  | [], acc, u, h => by
    simp only [Lib.parseUintM] at h
    cases h
    rfl
  | c :: r, acc, u, h => by
    simp only [Lib.parseUintM] at h
    split at h
    · split at h
      · cases h
      · split at h
        · cases h
        · exact parse_dfold M r _ u h
    · cases h
/-- one digit more -/
theorem parse_snoc (M : Nat) (c : UInt8) (hc : 48 ≤ c.toNat ∧ c.toNat ≤ 57) : ∀ (l : List UInt8) (acc u : Nat), Lib.parseUintM M acc l = .ok u → u < 1844674407370955162 → u * 10 + (c.toNat - 48) ≤ M → Lib.parseUintM M acc (l ++ [c]) = .ok (u * 10 + (c.toNat - 48))
  | [], acc, u, h, h1, h2 => by
    simp only [Lib.parseUintM] at h
    cases h
    simp only [List.nil_append, Lib.parseUintM]
    rw [if_pos hc, if_neg (by omega), if_neg (by omega)]
  | d :: r, acc, u, h, h1, h2 => by
    simp only [List.cons_append, Lib.parseUintM] at h ⊢
    split at h
    · rename_i hd
      rw [if_pos hd]
      split at h
      · cases h
      · rename_i h3
        rw [if_neg h3]
        split at h
        · cases h
        · rename_i h4
          rw [if_neg h4]
          exact parse_snoc M c hc r _ u h h1 h2
    · cases h
theorem digit_of {d : Nat} (h : d < 10) : (UInt8.ofNat (48 + d)).toNat = 48 + d := by
  simp; omega
theorem parse_dec : ∀ (f u : Nat), u < f → u ≤ 18446744073709551615 → Lib.parseUintM (2 ^ 64 - 1) 0 (Lib.decDigits u) = .ok u
  | 0, u, h, _ => by omega
  | f + 1, u, h, hu => by
    rw [Lib.decDigits]
    split
    · rename_i h10
      simp only [Lib.parseUintM]
      rw [digit_of h10, if_pos (by omega), if_neg (by omega), if_neg (by omega)]
      congr 1
      omega
    · rename_i h10
      have ih := parse_dec f (u / 10) (by omega) (by omega)
      have hd := digit_of (d := u % 10) (by omega)
      have := parse_snoc (2 ^ 64 - 1) (UInt8.ofNat (48 + u % 10)) (by rw [hd]; omega) _ 0 _ ih (by omega) (by rw [hd]; omega)
      rw [this, hd]
      congr 1
      omega
theorem dec_ne (u : Nat) : Lib.decDigits u ≠ [] := by
  rw [Lib.decDigits]
  split <;> simp
theorem dec_head : ∀ (f u : Nat), u < f → ∃ c r, Lib.decDigits u = c :: r ∧ 48 ≤ c.toNat ∧ c.toNat ≤ 57
  | 0, u, h => by omega
  | f + 1, u, h => by
    rw [Lib.decDigits]
    split
    · rename_i h10
      exact ⟨_, [], rfl, by rw [digit_of h10]; omega, by rw [digit_of h10]; omega⟩
    · obtain ⟨c, r, e, h1, h2⟩ := dec_head f (u / 10) (by omega)
      exact ⟨c, r ++ [UInt8.ofNat (48 + u % 10)], by rw [e]; rfl, h1, h2⟩
theorem parseB_dec (u : Nat) (hu : u ≤ 18446744073709551615) : Lib.parseUintB 64 (Lib.decDigits u) = .ok u := by
  unfold Lib.parseUintB
  rw [if_neg (dec_ne u)]
  exact parse_dec (u + 1) u (by omega) hu
/-- a numeral is read back -/
theorem parse_itoa (n : Int) (h0 : -9223372036854775808 ≤ n) (h1 : n ≤ 9223372036854775807) : Lib.parseIntB 64 (Lib.itoa n) = .ok n := by
  by_cases hn : n < 0
  · have e : Lib.itoa n = 45 :: Lib.decDigits n.natAbs := by unfold Lib.itoa; rw [if_pos hn]
    rw [e, Lib.parseIntB_minus, parseB_dec _ (by omega)]
    unfold Lib.signedC
    dsimp only
    rw [if_neg (by omega)]
    congr 1
    omega
  · have e : Lib.itoa n = Lib.decDigits n.toNat := by unfold Lib.itoa; rw [if_neg hn]
    obtain ⟨c, r, hc, c0, c1⟩ := dec_head (n.toNat + 1) n.toNat (by omega)
    have hp := parseB_dec n.toNat (by omega)
    rw [hc] at hp
    rw [e, hc, Lib.parseIntB_plain _ _ _ (by omega) (by omega), hp]
    unfold Lib.signlessC
    dsimp only
    rw [if_neg (by omega)]
    congr 1
    omega
theorem nDigits_le : ∀ (k u : Nat), u < 10 ^ (k + 1) → Lib.nDigits u ≤ k + 1
  | 0, u, h => by rw [Lib.nDigits_small (by simpa using h)]; omega
  | k + 1, u, h => by
    by_cases h10 : u < 10
    · rw [Lib.nDigits_small h10]; omega
    · rw [Lib.nDigits_big h10]
      have := nDigits_le k (u / 10) (by rw [Nat.pow_succ] at h; omega)
      omega
theorem itoa_len20 (n : Int) (h0 : -9223372036854775808 ≤ n) (h1 : n ≤ 9223372036854775807) : (Lib.itoa n).length ≤ 20 := by
  unfold Lib.itoa
  split
  · rw [List.length_cons, Lib.decDigits_length]
    have := nDigits_le 18 n.natAbs (by have : (10:Nat) ^ (18 + 1) = 10000000000000000000 := by decide
                                       omega)
    omega
  · rw [Lib.decDigits_length]
    have := nDigits_le 18 n.toNat (by have : (10:Nat) ^ (18 + 1) = 10000000000000000000 := by decide
                                      omega)
    omega
theorem ext_cons {t : ByteArray} {i e : Nat} (h : i < e) (he : e ≤ t.size) : (t.extract i e).data.toList = t[i] :: (t.extract (i + 1) e).data.toList := by
  rw [ByteArray.data_extract, ByteArray.data_extract, Array.toList_extract, Array.toList_extract]
  simp only [List.extract_eq_take_drop]
  have h' : i < t.data.toList.length := by rw [Array.length_toList]; show i < t.size; omega
  rw [List.drop_eq_getElem_cons h', show e - i = (e - (i + 1)) + 1 by omega, List.take_succ_cons]
  have e2 : t.data.toList[i] = t[i] := by rw [Array.getElem_toList]; rfl
  rw [e2]
theorem ext_nil {t : ByteArray} {i e : Nat} (h : e ≤ i) : (t.extract i e).data.toList = [] := by
  rw [ByteArray.data_extract, Array.toList_extract]
  simp only [List.extract_eq_take_drop]
  rw [show e - i = 0 by omega, List.take_zero]
theorem ext_snoc {t : ByteArray} {a k : Nat} (h : a + k < t.size) : (t.extract a (a + (k + 1))).data.toList = (t.extract a (a + k)).data.toList ++ [t[a + k]] := by
  rw [ByteArray.data_extract, ByteArray.data_extract, Array.toList_extract, Array.toList_extract]
  simp only [List.extract_eq_take_drop]
  rw [show a + (k + 1) - a = k + 1 by omega, show a + k - a = k by omega]
  have h' : k < (t.data.toList.drop a).length := by rw [List.length_drop, Array.length_toList]; show k < t.size - a; omega
  rw [List.take_succ_eq_append_getElem h']
  congr 2
  rw [List.getElem_drop, Array.getElem_toList]; rfl
theorem dfold_snoc (acc : Nat) (l : List UInt8) (c : UInt8) : dfold acc (l ++ [c]) = dfold acc l * 10 + (c.toNat - 48) := by simp [dfold]
theorem wrap_step (E c : Nat) (hc : 48 ≤ c ∧ c ≤ 57) : IntKind.i64.wrap (IntKind.i64.wrap (IntKind.i64.wrap (E : Int) * 10) + ((c : Int) - 48)) = IntKind.i64.wrap ((E * 10 + (c - 48) : Nat) : Int) := by
  have e : ((E * 10 + (c - 48) : Nat) : Int) = (E : Int) * 10 + ((c : Int) - 48) := by omega
  rw [e, wrap64_eq, wrap64_eq, wrap64_eq, wrap64_eq]
  omega
theorem nfold_dfold (t : ByteArray) (a : Nat) : ∀ k, a + k ≤ t.size → (∀ j, j < k → digB (byI t (a + j)) = true) → nfold t a k = IntKind.i64.wrap (dfold 0 (t.extract a (a + k)).data.toList)
  | 0, _, _ => by
    rw [Nat.add_zero, ext_nil (Nat.le_refl _), wrap64_eq]
    rfl
  | k + 1, h, hd => by
    have ih := nfold_dfold t a k (by omega) (fun j hj => hd j (by omega))
    have hk := hd k (by omega)
    have hlt : a + k < t.size := by omega
    rw [byI_eq hlt] at hk
    have hk2 : 48 ≤ (t[a + k].toNat : Int) ∧ (t[a + k].toNat : Int) ≤ 57 := by simpa [digB] using hk
    rw [ext_snoc hlt, dfold_snoc]
    unfold nfold
    rw [ih, byI_eq hlt]
    exact wrap_step _ _ (by omega)
theorem runTo_all (q : Int → Bool) (t : ByteArray) : ∀ (f i j : Nat), i ≤ j → j < runTo q t f i → q (byI t j) = true
  | 0, i, j, h, hj => by simp only [runTo] at hj; omega
  | f + 1, i, j, h, hj => by
    simp only [runTo] at hj
    split at hj
    · split at hj
      · rename_i hq
        by_cases e : j = i
        · exact e ▸ hq
        · exact runTo_all q t f (i + 1) j (by omega) hj
      · omega
    · omega
theorem neg_wrap (u : Nat) (h : u ≤ 9223372036854775808) : IntKind.i64.wrap (-(IntKind.i64.wrap (u : Int))) = -(u : Int) := by rw [wrap64_eq, wrap64_eq]; omega
theorem pos_wrap (u : Nat) (h : u < 9223372036854775808) : IntKind.i64.wrap (u : Int) = (u : Int) := by rw [wrap64_eq]; omega
theorem two63 : (2:Nat) ^ (64 - 1) = 9223372036854775808 := by decide
/-- the number as it is reckoned -/
def numS (t : ByteArray) (i : Nat) : Int := if byI t i = 45 then IntKind.i64.wrap (-nfold t (numAt t i) (numEnd t i - numAt t i)) else nfold t (numAt t i) (numEnd t i - numAt t i)
theorem numS_rng (t : ByteArray) (i : Nat) : -9223372036854775808 ≤ numS t i ∧ numS t i ≤ 9223372036854775807 := by
  unfold numS
  split
  · exact wrap64_rng _
  · exact nfold_rng _ _ _
theorem pNum_back {t : ByteArray} {i : Nat} (h : decS (numS t i) = t.extract i (numEnd t i)) : pNum t i = some (numS t i) := by
  have hr := numS_rng t i
  have e : (t.extract i (numEnd t i)).data.toList = Lib.itoa (numS t i) := by rw [← h]; simp [decS]
  unfold pNum
  rw [e, canon_ok (parse_itoa _ hr.1 hr.2), if_pos rfl]
theorem pNum_val {t : ByteArray} {i : Nat} {v : Int} (hi : i ≤ t.size) (h : pNum t i = some v) : numS t i = v ∧ i < numEnd t i ∧ numEnd t i - i ≤ 20 ∧ decS (numS t i) = t.extract i (numEnd t i) := by
  unfold pNum at h
  have hbd := numAt_bd hi
  have heb := run_bd digB t hbd.2
  have he : numEnd t i = run digB t (numAt t i) := rfl
  cases hp : Lib.parseIntB 64 (t.extract i (numEnd t i)).data.toList
  rotate_left 1
  · rw [canon_bad (fun v => by rw [hp]; simp)] at h; cases h
  · rw [canon_bad (fun v => by rw [hp]; simp)] at h; cases h
  case ok v' =>
    rw [canon_ok hp] at h
    split at h
    case isFalse => cases h
    rename_i hs
    cases h
    have hlt : i < numEnd t i := by
      by_cases hlt : i < numEnd t i
      · exact hlt
      · rw [ext_nil (by omega)] at hp
        cases hp
    have hrg := parse_rng hp
    have hlen : (t.extract i (numEnd t i)).data.toList.length = numEnd t i - i := by
      rw [Array.length_toList]
      show (t.extract i (numEnd t i)).size = _
      rw [ByteArray.size_extract]
      omega
    have h20 := itoa_len20 v hrg.1 hrg.2
    rw [hs, hlen] at h20
    have hv : numS t i = v := by
      have hall : ∀ j, j < numEnd t i - numAt t i → digB (byI t (numAt t i + j)) = true := fun j hj => runTo_all digB t _ _ _ (Nat.le_add_right _ _) (by show _ < run digB t (numAt t i); omega)
      have hnf := nfold_dfold t (numAt t i) (numEnd t i - numAt t i) (by omega) hall
      rw [show numAt t i + (numEnd t i - numAt t i) = numEnd t i by omega] at hnf
      unfold numS
      split
      · rename_i hm
        have ha : numAt t i = i + 1 := by unfold numAt; rw [if_pos hm]
        rw [ext_cons hlt (by omega)] at hp
        have hi2 : i < t.size := by omega
        have h45 : t[i] = 45 := by
          rw [byI_eq hi2] at hm
          exact UInt8.toNat_inj.1 (by have : (45 : UInt8).toNat = 45 := rfl
                                      omega)
        rw [h45, Lib.parseIntB_minus] at hp
        rw [hnf, ha]
        cases hu : Lib.parseUintB 64 (t.extract (i + 1) (numEnd t i)).data.toList
        rotate_left 1
        · rw [hu] at hp; cases hp
        · rw [hu] at hp; cases hp
        case ok u =>
          rw [hu] at hp
          unfold Lib.signedC at hp
          dsimp only at hp
          split at hp
          · cases hp
          · rename_i hle
            cases hp
            unfold Lib.parseUintB at hu
            split at hu
            · cases hu
            · rw [← parse_dfold _ _ _ _ hu]
              rw [two63] at hle
              exact neg_wrap u (Nat.le_of_not_lt hle)
      · rename_i hm
        have ha : numAt t i = i := by unfold numAt; rw [if_neg hm]
        rw [ext_cons hlt (by omega)] at hp
        have hi2 : i < t.size := by omega
        have hd := hall 0 (by omega)
        rw [Nat.add_zero, ha, byI_eq hi2] at hd
        have hd2 : 48 ≤ (t[i].toNat : Int) ∧ (t[i].toNat : Int) ≤ 57 := by simpa [digB] using hd
        rw [Lib.parseIntB_plain _ _ _ (by omega) (by omega), ← ext_cons hlt (by omega)] at hp
        rw [hnf, ha]
        cases hu : Lib.parseUintB 64 (t.extract i (numEnd t i)).data.toList
        rotate_left 1
        · rw [hu] at hp; cases hp
        · rw [hu] at hp; cases hp
        case ok u =>
          rw [hu] at hp
          unfold Lib.signlessC at hp
          dsimp only at hp
          split at hp
          · cases hp
          · rename_i hle
            cases hp
            unfold Lib.parseUintB at hu
            split at hu
            · cases hu
            · rw [← parse_dfold _ _ _ _ hu]
              rw [two63] at hle
              exact pos_wrap u (Nat.lt_of_not_le hle)
    exact ⟨hv, hlt, h20, by rw [hv]; exact toList_inj' (by rw [← hs]; simp [decS])⟩
end Go.Proofs.YtllhimeffkefiaaGreatDoor
