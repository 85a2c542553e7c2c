/- Texts of one proof, joined in their order: each bears its own word of what it holds and on what condition. -/
import Derived.Test.YtllhimeffkefiaaGreatDoorMB
import Derived.Test.YtllhimeffkefiaaGreatDoorSh
set_option linter.unusedVariables false
set_option linter.unusedSimpArgs false
/- impl's reader: what is known of the library's variables, the reader's state, peek, eat, whole numbers. Condition: texts of at most 2^20 bytes. -/
set_option linter.unusedVariables false
namespace Go.Proofs.YtllhimeffkefiaaGreatDoor
open Go.RowKit Go.Sort

/-! ### the library's variables -/
def isG (b : Nat) : Prop := b = 0 ∨ b = 1 ∨ b = 2
structure Env (w : World) : Prop where
  tab : Lib.TabIs Tryz.prog w "internal/strconv.uint64pow10" .u64 Lib.pow10Tab
  syn : ∃ ev, w.cell? ⟨0, 0, none⟩ = some ev ∧ ∃ te pe, ev = .iface te pe
  ran : ∃ ev, w.cell? ⟨1, 0, none⟩ = some ev ∧ ∃ te pe, ev = .iface te pe
  siz : ∀ b, isG b → b < w.heap.size
theorem gPow : Tryz.prog.globalNamed "internal/strconv.uint64pow10" = some 2 := by kernel_rfl
theorem Env.kept {w w' : World} (h : Env w) (hz : w.heap.size ≤ w'.heap.size) (hk : ∀ b, isG b → w'.heap[b]? = w.heap[b]?) : Env w' := by
  obtain ⟨ht, ⟨e1, h1, q1⟩, ⟨e2, h2, q2⟩, hs⟩ := h
  refine ⟨?_, ⟨e1, (World.cell?_of_block (a := ⟨_, 0, none⟩) (hk _ (.inl rfl))).trans h1, q1⟩, ⟨e2, (World.cell?_of_block (a := ⟨_, 0, none⟩) (hk _ (.inr (.inl rfl)))).trans h2, q2⟩, fun b hb => Nat.lt_of_lt_of_le (hs b hb) hz⟩
  have hk2 := hk _ (.inr (.inr rfl))
  unfold Lib.TabIs World.var? at *
  rw [gPow] at *
  simpa [hk2] using ht
theorem Env.below {w w' : World} (h : Env w) (hb : Below w.heap.size w w') : Env w' := h.kept hb.size fun b hg => hb.block b (h.siz b hg)

theorem below_grow (w : World) (k : Nat) (os : Array Obj) : Below w.heap.size w (grow (w.drewN k) os) :=
  ⟨rfl, rfl, rfl, by simp [grow], fun b hb => by
    show (w.heap ++ os)[b]? = _
    rw [Array.getElem?_append_left hb]⟩

/-! ### numbers -/
def canon (s : List UInt8) : Option Int := match Lib.parseIntB 64 s with
  | .ok v => if Lib.itoa v = s then some v else none
  | _ => none
def ParseOk (v : Int) (w : World) (e : Ending) (w' : World) : Prop := e = .returned (.tuple #[.int .i64 v, .nilIface]) ∧ Below w.heap.size w w'
def ParseBad (w : World) (e : Ending) (w' : World) : Prop := ∃ v T p, e = .returned (.tuple #[.int .i64 v, .iface T (.pointer (some ⟨p, 0, none⟩))]) ∧ Below w.heap.size w w'
theorem parse_ok (s : ByteArray) (hs : s.size ≤ 1048576) (v : Int) (h : Lib.parseIntB 64 s.data.toList = .ok v) (w : World) : Calls Tryz.prog 176 #[.string s, .int .i64 10, .int .i64 64] w (ParseOk v w) :=
  (Tryz.strconv_ParseInt_10_at64_ok s (by omega) v h w).mono fun e w' ⟨he, hw⟩ => ⟨he, by
    rcases hw with rfl | ⟨t, rfl⟩
    · exact Below.refl _ _
    · exact Lib.bytesWorld_below _ _ _⟩
theorem parse_bad (s : ByteArray) (hs : s.size ≤ 1048576) (h : ∀ v, Lib.parseIntB 64 s.data.toList ≠ .ok v) (w : World) (hE : Env w) : Calls Tryz.prog 176 #[.string s, .int .i64 10, .int .i64 64] w (ParseBad w) := by
  obtain ⟨_, ⟨e1, h1, q1⟩, ⟨e2, h2, q2⟩, _⟩ := hE
  cases hp : Lib.parseIntB 64 s.data.toList
  · exact absurd hp (h _)
  · exact (Any.strconv_ParseInt_10_at64_syntax Tryz.laysC174 s (by omega) hp e1 w h1 (.inr q1)).mono fun e w' ⟨N, he, _, _, hb⟩ => ⟨_, _, _, he, hb⟩
  · exact (Tryz.strconv_ParseInt_10_at64_range s (by omega) hp e2 w h2 (.inr q2)).mono fun e w' ⟨N, he, _, _, hb⟩ => ⟨_, _, _, he, hb⟩
def StrR (s : ByteArray) (w : World) (e : Ending) (w' : World) : Prop := e = .returned (.string s) ∧ Below w.heap.size w w'
def decS (n : Int) : ByteArray := ⟨(Lib.itoa n).toArray⟩
theorem format_any (n : Int) (h0 : -9223372036854775808 ≤ n) (h1 : n ≤ 9223372036854775807) (w : World) (hE : Env w) : Calls Tryz.prog 177 #[.int .i64 n, .int .i64 10] w (StrR (decS n) w) :=
  (Tryz.strconv_FormatInt_10 n h0 h1 w hE.tab).mono fun e w' ⟨he, k, os, hw⟩ => ⟨he, hw ▸ below_grow _ _ _⟩

/-! ### the reader -/
/-- a reader at block r: its text and its place -/
structure Rs (w : World) (r : Nat) (t : ByteArray) (i : Nat) : Prop where
  c0 : w.cell? ⟨r, 0, none⟩ = some (.string t)
  c1 : w.cell? ⟨r, 1, none⟩ = some (.int .i64 i)
  f1 : w.frozen? ⟨r, 1, none⟩ = false
  env : Env w
  ng : ¬ isG r
  le : i ≤ t.size
  sz : t.size ≤ 1048576
/-- only block r has turned -/
structure To (r : Nat) (w w' : World) : Prop where
  os : w'.os = w.os
  tape : w'.tape = w.tape
  output : w'.output = w.output
  size : w.heap.size ≤ w'.heap.size
  block : ∀ b, b < w.heap.size → b ≠ r → w'.heap[b]? = w.heap[b]?
theorem To.refl (r : Nat) (w : World) : To r w w := ⟨rfl, rfl, rfl, Nat.le_refl _, fun _ _ _ => rfl⟩
theorem To.trans {r : Nat} {a b c : World} (h : To r a b) (k : To r b c) : To r a c :=
  ⟨k.os.trans h.os, k.tape.trans h.tape, k.output.trans h.output, Nat.le_trans h.size k.size, fun x hx hne => (k.block x (Nat.lt_of_lt_of_le hx h.size) hne).trans (h.block x hx hne)⟩
theorem To.of {r : Nat} {w w' : World} (h : Below w.heap.size w w') : To r w w' := ⟨h.os, h.tape, h.output, h.size, fun b hb _ => h.block b hb⟩
theorem To.set (r : Nat) (w : World) (o : Nat) (v : Value) : To r w (w.setCell ⟨r, o, none⟩ v) := ⟨rfl, rfl, rfl, by simp [World.setCell], fun b _ hne => Below.heap_setCell _ _ _ _ hne⟩
theorem To.below {r B : Nat} {w w' : World} (h : To r w w') (hB : B ≤ r) (hz : B ≤ w.heap.size) : Below B w w' := ⟨h.os, h.tape, h.output, h.size, fun b hb => h.block b (by omega) (by omega)⟩
theorem Rs.lt {w : World} {r : Nat} {t : ByteArray} {i : Nat} (h : Rs w r t i) : r < w.heap.size := lt_of_cell h.c0
theorem Rs.below {w w' : World} {r : Nat} {t : ByteArray} {i : Nat} (h : Rs w r t i) (hb : Below w.heap.size w w') : Rs w' r t i :=
  ⟨cell_kept (fun hlt => hb.block r hlt) h.c0, cell_kept (fun hlt => hb.block r hlt) h.c1, (hb.frozen (p := ⟨r, 1, none⟩) h.lt).trans h.f1, h.env.below hb, h.ng, h.le, h.sz⟩
theorem Rs.set {w : World} {r : Nat} {t : ByteArray} {i : Nat} (h : Rs w r t i) (j : Nat) (hj : j ≤ t.size) : Rs (w.setCell ⟨r, 1, none⟩ (.int .i64 j)) r t j :=
  ⟨(World.cell?_setCell_other _ _ _ _ (by simp)).trans h.c0, World.cell?_setCell_same _ _ _ h.c1, (World.frozen?_setCell _ _ _ _).trans h.f1, h.env.kept (by simp [World.setCell]) (fun b hb => Below.heap_setCell _ _ _ _ (fun e => h.ng (by have e : b = r := e; rw [← e]; exact hb))), h.ng, hj, h.sz⟩
theorem Env.to {w w' : World} {r : Nat} (h : Env w) (ht : To r w w') (hn : ¬ isG r) : Env w' := h.kept ht.size fun b hb => ht.block b (h.siz b hb) (fun e => hn (e ▸ hb))

def ByteR (n : Int) (w : World) (e : Ending) (w' : World) : Prop := e = .returned (.int .u8 n) ∧ Below w.heap.size w w'

set_option maxHeartbeats 1000000 in
set_option maxRecDepth 100000 in
theorem peek_any (w : World) (r : Nat) (t : ByteArray) (i : Nat) (h : Rs w r t i) : Calls Tryz.prog 157 #[.pointer (some ⟨r, 0, none⟩)] w (ByteR (byI t i) w) := by
  have c0 := h.c0
  have c1 := h.c1
  by_cases hlt : i < t.size
  · obtain ⟨x, hx⟩ : ∃ x : Int, byI t i = x := ⟨_, rfl⟩
    have hx' : (t[i].toNat : Int) = x := by rw [← hx, byI_eq hlt]
    rw [hx]
    clear hx h
    have h2 : (i : Int) < t.size := by omega
    go_enter Tryz.func157, Tryz.ntmps157
    go_wp2
    go_quiet (fail)
    go_wp2
    go_quiet (fail)
    go_wp2
    go_ret
    exact ⟨rfl, ⟨rfl, rfl, rfl, Nat.le_refl _, fun _ _ => rfl⟩⟩
  · have HX : Hid (byI t i = 0) := Lib.hid (by unfold byI; rw [dif_neg hlt])
    have h2 : ¬ (i : Int) < t.size := by omega
    have h3 : decide ((i : Int) < t.size) = false := decide_eq_false h2
    clear h
    go_enter Tryz.func157, Tryz.ntmps157
    go_wp2
    go_quiet (fail)
    go_wp2
    go_ret
    exact ⟨by rw [HX.out]; rfl, ⟨rfl, rfl, rfl, Nat.le_refl _, fun _ _ => rfl⟩⟩

/-- does p stand at place i of t? -/
def begB (t : ByteArray) (i : Nat) (p : ByteArray) : Bool := Lib.hasPrefix (t.extract i t.size).data.toList p.data.toList
theorem begB_len {t : ByteArray} {i : Nat} {p : ByteArray} (h : begB t i p = true) (hi : i ≤ t.size) : i + p.size ≤ t.size := by
  unfold begB Lib.hasPrefix at h
  have := (List.isPrefixOf_iff_prefix.1 h).length_le
  rw [Array.length_toList, Array.length_toList] at this
  have e : (t.extract i t.size).data.size = t.size - i := by
    show (t.extract i t.size).size = _
    rw [ByteArray.size_extract]; omega
  have e2 : p.data.size = p.size := rfl
  omega
/-- it says b; the reader stands at i -/
def RdB (r : Nat) (t : ByteArray) (b : Bool) (i : Nat) (w : World) (e : Ending) (w' : World) : Prop := e = .returned (.bool b) ∧ Rs w' r t i ∧ To r w w'

set_option maxHeartbeats 1000000 in
set_option maxRecDepth 100000 in
theorem eat_no (w : World) (r : Nat) (t : ByteArray) (i : Nat) (p : ByteArray) (h : Rs w r t i) (hb : begB t i p = false) : Calls Tryz.prog 165 #[.pointer (some ⟨r, 0, none⟩), .string p] w (RdB r t false i w) := by
  have c0 := h.c0
  have c1 := h.c1
  have hle : (i : Int) ≤ t.size := by have := h.le; omega
  have HB := Lib.hid hb
  clear hb
  go_enter Tryz.func165, Tryz.ntmps165
  go_wp2_with fail
  go_quiet ((go_at_call 179; exact Calls.quiet_of_same (Tryz.strings_HasPrefix _ _ _)))
  rw [show Lib.hasPrefix (t.extract i t.size).data.toList p.data.toList = false from HB.out]
  go_wp2
  go_ret
  have hd : Below w.heap.size w (w.drewN nq) := ⟨rfl, rfl, rfl, Nat.le_refl _, fun _ _ => rfl⟩
  exact ⟨rfl, h.below hd, To.of hd⟩
set_option maxHeartbeats 1000000 in
set_option maxRecDepth 100000 in
theorem eat_yes (w : World) (r : Nat) (t : ByteArray) (i : Nat) (p : ByteArray) (h : Rs w r t i) (hb : begB t i p = true) : Calls Tryz.prog 165 #[.pointer (some ⟨r, 0, none⟩), .string p] w (RdB r t true (i + p.size) w) := by
  have c0 := h.c0
  have c1 := h.c1
  have f1 := h.f1
  have hle : (i : Int) ≤ t.size := by have := h.le; omega
  have hl := begB_len hb h.le
  have hz : (i : Int) + p.size ≤ 1048576 := by have := h.sz; omega
  have HB := Lib.hid hb
  clear hb
  go_enter Tryz.func165, Tryz.ntmps165
  go_wp2_with fail
  go_quiet ((go_at_call 179; exact Calls.quiet_of_same (Tryz.strings_HasPrefix _ _ _)))
  rw [show Lib.hasPrefix (t.extract i t.size).data.toList p.data.toList = true from HB.out]
  go_wp2
  go_ret
  have hd : Below w.heap.size w (w.drewN nq) := ⟨rfl, rfl, rfl, Nat.le_refl _, fun _ _ => rfl⟩
  have hs := (h.below hd).set (i + p.size) hl
  push_cast at hs
  exact ⟨rfl, hs, (To.of hd).trans (To.set r _ 1 _)⟩

/-- the place behind a run of bytes -/
def runTo (q : Int → Bool) (t : ByteArray) : Nat → Nat → Nat
  | 0, i => i
  | f + 1, i => if i < t.size then (if q (byI t i) then runTo q t f (i + 1) else i) else i
theorem runTo_fuel (q : Int → Bool) (t : ByteArray) : ∀ (f g i : Nat), t.size ≤ i + f → t.size ≤ i + g → runTo q t f i = runTo q t g i
  | 0, 0, i, _, _ => rfl
  | 0, g + 1, i, h, _ => by rw [runTo, runTo, if_neg (by omega)]
  | f + 1, 0, i, _, h => by rw [runTo, runTo, if_neg (by omega)]
  | f + 1, g + 1, i, h, h' => by
    rw [runTo, runTo]
    split
    · split
      · exact runTo_fuel q t f g (i + 1) (by omega) (by omega)
      · rfl
    · rfl
def run (q : Int → Bool) (t : ByteArray) (i : Nat) : Nat := runTo q t t.size i
theorem run_go {q : Int → Bool} {t : ByteArray} {i : Nat} (h : i < t.size) (hq : q (byI t i) = true) : run q t i = run q t (i + 1) := by
  obtain ⟨n, hn⟩ : ∃ n, t.size = n + 1 := ⟨t.size - 1, by omega⟩
  have e : run q t i = runTo q t n (i + 1) := by
    unfold run
    rw [hn, runTo, if_pos h, if_pos hq]
  rw [e]
  exact runTo_fuel q t _ _ _ (by omega) (by omega)
theorem run_stop {q : Int → Bool} {t : ByteArray} {i : Nat} (h : ¬ (i < t.size ∧ q (byI t i) = true)) : run q t i = i := by
  unfold run
  cases hn : t.size with
  | zero => rfl
  | succ n =>
    rw [runTo]
    split
    · rename_i h1
      rw [if_neg (fun hq => h ⟨h1, hq⟩)]
    · rfl
theorem runTo_bd (q : Int → Bool) (t : ByteArray) : ∀ (f i : Nat), i ≤ t.size → i ≤ runTo q t f i ∧ runTo q t f i ≤ t.size
  | 0, i, h => ⟨Nat.le_refl _, h⟩
  | f + 1, i, h => by
    rw [runTo]
    split
    · split
      · have := runTo_bd q t f (i + 1) (by omega)
        omega
      · omega
    · omega
theorem run_bd (q : Int → Bool) (t : ByteArray) {i : Nat} (h : i ≤ t.size) : i ≤ run q t i ∧ run q t i ≤ t.size := runTo_bd q t _ i h

/-- where the digits of a number begin -/
def numAt (t : ByteArray) (i : Nat) : Nat := if byI t i = 45 then i + 1 else i
def numEnd (t : ByteArray) (i : Nat) : Nat := run digB t (numAt t i)
theorem byI_lt {t : ByteArray} {i : Nat} (h : byI t i ≠ 0) : i < t.size := by
  unfold byI at h
  split at h
  · assumption
  · exact absurd rfl h
theorem numAt_bd {t : ByteArray} {i : Nat} (h : i ≤ t.size) : i ≤ numAt t i ∧ numAt t i ≤ t.size := by
  unfold numAt
  split
  · rename_i h1
    have := byI_lt (t := t) (i := i) (by rw [h1]; decide)
    omega
  · omega
/-- a whole number at a place, and where it ends -/
def pNum (t : ByteArray) (i : Nat) : Option Int := canon (t.extract i (numEnd t i)).data.toList

/-- what reading hands back: a number and whether it is one; the reader stands behind -/
def NumR (r : Nat) (t : ByteArray) (n : Option Int) (j : Nat) (w : World) (e : Ending) (w' : World) : Prop :=
  e = .returned (.tuple #[.int .i64 (n.getD 0), .bool n.isSome]) ∧ Rs w' r t j ∧ To r w w'

theorem canon_ok {s : List UInt8} {v : Int} (h : Lib.parseIntB 64 s = .ok v) : canon s = if Lib.itoa v = s then some v else none := by unfold canon; rw [h]
theorem canon_bad {s : List UInt8} (h : ∀ v, Lib.parseIntB 64 s ≠ .ok v) : canon s = none := by
  unfold canon
  split
  · rename_i v hv
    exact absurd hv (h v)
  · rfl
theorem parse_rng {s : List UInt8} {v : Int} (h : Lib.parseIntB 64 s = .ok v) : -9223372036854775808 ≤ v ∧ v ≤ 9223372036854775807 := by
  unfold Lib.parseIntB at h
  split at h
  · cases h
  · rename_i c r
    simp only at h
    split at h
    · cases h
    · cases h
    · rename_i u hu
      split at h
      · cases h
      · split at h
        · cases h
        · rename_i h1 h2
          cases h
          have e : (2 : Nat) ^ (64 - 1) = 9223372036854775808 := by decide
          rw [e] at h1 h2
          split
          · rename_i hn
            have : ¬ 9223372036854775808 < u := fun hu => h2 ⟨hn, hu⟩
            omega
          · rename_i hn
            have : ¬ 9223372036854775808 ≤ u := fun hu => h1 ⟨hn, hu⟩
            omega
theorem str_ne {a b : ByteArray} (h : ¬ a = b) : (!(a.toList == b.toList)) = true := by
  rw [ByteArray.toList_eq, ByteArray.toList_eq]
  have : a.data.toList ≠ b.data.toList := fun e => h (by cases a; cases b; congr 1; exact Array.ext' e)
  simpa using this
theorem toList_inj' {a b : ByteArray} (h : a.data.toList = b.data.toList) : a = b := by
  cases a; cases b
  congr 1
  exact Array.ext' h

/-- what is left of the text -/
def lefR (r : Nat) (t : ByteArray) (w : World) : Nat := match w.cell? ⟨r, 1, none⟩ with
  | some v => t.size - (intOf v).toNat
  | none => 0
theorem Rs.lef {w : World} {r : Nat} {t : ByteArray} {i : Nat} (h : Rs w r t i) : lefR r t w = t.size - i := by
  unfold lefR
  rw [h.c1]
  simp [intOf]
theorem drewN_below (w : World) (n : Nat) : Below w.heap.size w (w.drewN n) := ⟨rfl, rfl, rfl, Nat.le_refl _, fun _ _ => rfl⟩

set_option maxHeartbeats 4000000 in
set_option maxRecDepth 100000 in
theorem whole_any (w : World) (r : Nat) (t : ByteArray) (i : Nat) (h : Rs w r t i) : Calls Tryz.prog 160 #[.pointer (some ⟨r, 0, none⟩)] w (NumR r t (pNum t i) (numEnd t i) w) := by
  have c0 := h.c0
  have c1 := h.c1
  have f1 := h.f1
  have hi := h.le
  have hz := h.sz
  have hbd := numAt_bd h.le
  have hE := Lib.hid (run_bd digB t hbd.2)
  have HE0 : Hid (numEnd t i = run digB t (numAt t i)) := Lib.hid rfl
  by_cases hm : byI t i = 45
  · have hlt := byI_lt (t := t) (i := i) (by rw [hm]; decide)
    have hm' : (byI t i == 45) = true := by simpa using hm
    have HA : Hid (numAt t i = i + 1) := Lib.hid (by unfold numAt; rw [if_pos hm])
    clear hm
    go_enter Tryz.func160, Tryz.ntmps160
    go_wp2_with (go_at_call 157; refine (peek_any _ r t i h).mono ?_; rintro e w1 ⟨rfl, hb1⟩; have h1 := h.below hb1; have k0 := h1.c0; have k1 := h1.c1; have k2 := h1.f1)
    have hs1 := h1.set (i + 1) hlt
    push_cast at hs1
    have hw1 : To r w _ := (To.of hb1).trans (To.set r w1 1 (.int .i64 ((i : Int) + 1)))
    clear hb1 c0 c1 f1 h hm' h1 k0 k1 k2 hlt
    have h1 := hs1
    clear hs1
    go_loopw [] (fun wr => ∃ k : Nat, numAt t i ≤ k ∧ k ≤ t.size ∧ Hid (run digB t (numAt t i) = run digB t k) ∧ Rs wr r t k ∧ To r w wr) (fun wr => lefR r t wr)
    case atStart => exact ⟨numAt t i, Nat.le_refl _, hbd.2, rfl, by rw [HA.out]; exact h1, hw1⟩
    case round =>
      obtain ⟨k, hk1, hk, HR, hr, hw⟩ := hrel
      have k0 := hr.c0
      have k1 := hr.c1
      have k2 := hr.f1
      have hik : (i : Int) ≤ k := by omega
      have hkt : (k : Int) ≤ t.size := by omega
      by_cases hlt : k < t.size ∧ digB (byI t k) = true
      · obtain ⟨hlt, hd⟩ := hlt
        have HG := Lib.hid (run_go hlt hd)
        obtain ⟨x, hx⟩ : ∃ x : Int, byI t k = x := ⟨_, rfl⟩
        have hx' : (t[k].toNat : Int) = x := by rw [← hx, byI_eq hlt]
        rw [hx] at hd
        clear hx
        have g1 : decide ((k : Int) < t.size) = true := decide_eq_true (by omega)
        go_wp2_with fail
        go_quiet ((go_at_call 121; exact Calls.quiet_of_same ((isDigit_any _ _).mono fun e w' h => ⟨h.1, h.2.symm⟩)))
        go_wp2_with fail
        have hr2 := (hr.below (drewN_below wr nq)).set (k + 1) hlt
        push_cast at hr2
        go_roundw
        case rel => exact ⟨k + 1, by omega, by omega, HR.out.trans HG.out, hr2, (hw.trans (To.of (drewN_below wr nq))).trans (To.set r _ 1 _)⟩
        case measure => rw [hr2.lef, hr.lef]; omega
      · have HK : Hid (numEnd t i = k) := Lib.hid (HE0.out.trans (HR.out.trans (run_stop hlt)))
        have hcond : ∀ (P : Prop), (∀ (hh : k < t.size), digB (byI t k) = false → P) → ((k : Int) < t.size → False) → True := fun _ _ _ => trivial
        clear hcond
        obtain ⟨s, hs⟩ : ∃ s, t.extract i k = s := ⟨_, rfl⟩
        have hsz : s.size ≤ 1048576 := by rw [← hs, ByteArray.size_extract]; omega
        have HN : Hid (pNum t i = canon s.data.toList) := Lib.hid (by unfold pNum; rw [HK.out, hs])
        have HS := Lib.hid hs
        have two : (k < t.size ∧ digB (byI t k) = false) ∨ ¬ k < t.size := by
          by_cases h1 : k < t.size
          · exact .inl ⟨h1, by simpa [h1] using hlt⟩
          · exact .inr h1
        clear hlt HR hk1
        rcases two with ⟨hlt, hd⟩ | hlt
        · obtain ⟨x, hx⟩ : ∃ x : Int, byI t k = x := ⟨_, rfl⟩
          have hx' : (t[k].toNat : Int) = x := by rw [← hx, byI_eq hlt]
          rw [hx] at hd
          clear hx
          have g1 : decide ((k : Int) < t.size) = true := decide_eq_true (by omega)
          go_wp2_with fail
          go_quiet ((go_at_call 121; exact Calls.quiet_of_same ((isDigit_any _ _).mono fun e w' h => ⟨h.1, h.2.symm⟩)))
          clear g1 hx' hd
          revert nq
          intro n1
          go_wp2_with fail
          go_quiet (fail)
          have hD := drewN_below wr (n1 + nq)
          have hr2 := hr.below hD
          have hw2 := hw.trans (To.of hD)
          clear hD hr hw k0 k1 k2 hik hkt
          by_cases hp : ∃ v, Lib.parseIntB 64 s.data.toList = .ok v
          · obtain ⟨v, hp⟩ := hp
            have HP := Lib.hid (canon_ok hp)
            have hv := parse_rng hp
            have HPP := Lib.hid hp
            clear hp
            by_cases hq : decS v = s
            · have HC : Hid (canon s.data.toList = some v) := Lib.hid (by rw [HP.out, ← hq]; exact if_pos rfl)
              clear HP HS
              subst hq
              go_wp2_with (first
                | (go_at_call 176; refine (parse_ok _ hsz v HPP.out _).mono ?_; rintro e w3 ⟨rfl, hb3⟩)
                | (go_at_call 177; refine (format_any v hv.1 hv.2 _ (hr2.env.below hb3)).mono ?_; rintro e w4 ⟨rfl, hb4⟩))
              go_ret2
              have hb5 := hb3.trans (hb4.mono hb3.size)
              exact ⟨by rw [HN.out, HC.out]; rfl, by rw [HK.out]; exact hr2.below hb5, hw2.trans (To.of hb5)⟩
            · have HC : Hid (canon s.data.toList = none) := Lib.hid (by rw [HP.out]; exact if_neg (fun e => hq (toList_inj' (by unfold decS; simpa using e))))
              clear HP HS
              have hq2 := str_ne hq
              go_wp2_with (first
                | (go_at_call 176; refine (parse_ok _ hsz v HPP.out _).mono ?_; rintro e w3 ⟨rfl, hb3⟩)
                | (go_at_call 177; refine (format_any v hv.1 hv.2 _ (hr2.env.below hb3)).mono ?_; rintro e w4 ⟨rfl, hb4⟩))
              all_goals first
                | (exfalso; exact hq (by assumption))
                | (go_ret2
                   have hb5 := hb3.trans (hb4.mono hb3.size)
                   exact ⟨by rw [HN.out, HC.out]; rfl, by rw [HK.out]; exact hr2.below hb5, hw2.trans (To.of hb5)⟩)
          · have hp : ∀ v, Lib.parseIntB 64 s.data.toList ≠ .ok v := fun v h => hp ⟨v, h⟩
            have HC := Lib.hid (canon_bad hp)
            have HPP := Lib.hid hp
            clear hp HS
            go_wp2_with (go_at_call 176; refine (parse_bad _ hsz HPP.out _ hr2.env).mono ?_; rintro e w3 ⟨v, T, p, rfl, hb3⟩)
            go_ret2
            exact ⟨by rw [HN.out, HC.out]; rfl, by rw [HK.out]; exact hr2.below hb3, hw2.trans (To.of hb3)⟩
        · have g1 : decide ((k : Int) < t.size) = false := decide_eq_false (by omega)
          go_wp2_with fail
          go_quiet ((go_at_call 121; exact Calls.quiet_of_same ((isDigit_any _ _).mono fun e w' h => ⟨h.1, h.2.symm⟩)))
          clear g1
          revert nq
          intro n1
          go_wp2_with fail
          go_quiet (fail)
          have hD := drewN_below wr (n1 + nq)
          have hr2 := hr.below hD
          have hw2 := hw.trans (To.of hD)
          clear hD hr hw k0 k1 k2 hik hkt
          by_cases hp : ∃ v, Lib.parseIntB 64 s.data.toList = .ok v
          · obtain ⟨v, hp⟩ := hp
            have HP := Lib.hid (canon_ok hp)
            have hv := parse_rng hp
            have HPP := Lib.hid hp
            clear hp
            by_cases hq : decS v = s
            · have HC : Hid (canon s.data.toList = some v) := Lib.hid (by rw [HP.out, ← hq]; exact if_pos rfl)
              clear HP HS
              subst hq
              go_wp2_with (first
                | (go_at_call 176; refine (parse_ok _ hsz v HPP.out _).mono ?_; rintro e w3 ⟨rfl, hb3⟩)
                | (go_at_call 177; refine (format_any v hv.1 hv.2 _ (hr2.env.below hb3)).mono ?_; rintro e w4 ⟨rfl, hb4⟩))
              go_ret2
              have hb5 := hb3.trans (hb4.mono hb3.size)
              exact ⟨by rw [HN.out, HC.out]; rfl, by rw [HK.out]; exact hr2.below hb5, hw2.trans (To.of hb5)⟩
            · have HC : Hid (canon s.data.toList = none) := Lib.hid (by rw [HP.out]; exact if_neg (fun e => hq (toList_inj' (by unfold decS; simpa using e))))
              clear HP HS
              have hq2 := str_ne hq
              go_wp2_with (first
                | (go_at_call 176; refine (parse_ok _ hsz v HPP.out _).mono ?_; rintro e w3 ⟨rfl, hb3⟩)
                | (go_at_call 177; refine (format_any v hv.1 hv.2 _ (hr2.env.below hb3)).mono ?_; rintro e w4 ⟨rfl, hb4⟩))
              all_goals first
                | (exfalso; exact hq (by assumption))
                | (go_ret2
                   have hb5 := hb3.trans (hb4.mono hb3.size)
                   exact ⟨by rw [HN.out, HC.out]; rfl, by rw [HK.out]; exact hr2.below hb5, hw2.trans (To.of hb5)⟩)
          · have hp : ∀ v, Lib.parseIntB 64 s.data.toList ≠ .ok v := fun v h => hp ⟨v, h⟩
            have HC := Lib.hid (canon_bad hp)
            have HPP := Lib.hid hp
            clear hp HS
            go_wp2_with (go_at_call 176; refine (parse_bad _ hsz HPP.out _ hr2.env).mono ?_; rintro e w3 ⟨v, T, p, rfl, hb3⟩)
            go_ret2
            exact ⟨by rw [HN.out, HC.out]; rfl, by rw [HK.out]; exact hr2.below hb3, hw2.trans (To.of hb3)⟩
  · have hm' : (byI t i == 45) = false := by simpa using hm
    have HA : Hid (numAt t i = i) := Lib.hid (by unfold numAt; rw [if_neg hm])
    clear hm
    go_enter Tryz.func160, Tryz.ntmps160
    go_wp2_with (go_at_call 157; refine (peek_any _ r t i h).mono ?_; rintro e w1 ⟨rfl, hb1⟩; have h1 := h.below hb1)
    have hw1 : To r w w1 := To.of hb1
    clear hb1 c0 c1 f1 h hm'
    go_loopw [] (fun wr => ∃ k : Nat, numAt t i ≤ k ∧ k ≤ t.size ∧ Hid (run digB t (numAt t i) = run digB t k) ∧ Rs wr r t k ∧ To r w wr) (fun wr => lefR r t wr)
    case atStart => exact ⟨numAt t i, Nat.le_refl _, hbd.2, rfl, by rw [HA.out]; exact h1, hw1⟩
    case round =>
      obtain ⟨k, hk1, hk, HR, hr, hw⟩ := hrel
      have k0 := hr.c0
      have k1 := hr.c1
      have k2 := hr.f1
      have hik : (i : Int) ≤ k := by omega
      have hkt : (k : Int) ≤ t.size := by omega
      by_cases hlt : k < t.size ∧ digB (byI t k) = true
      · obtain ⟨hlt, hd⟩ := hlt
        have HG := Lib.hid (run_go hlt hd)
        obtain ⟨x, hx⟩ : ∃ x : Int, byI t k = x := ⟨_, rfl⟩
        have hx' : (t[k].toNat : Int) = x := by rw [← hx, byI_eq hlt]
        rw [hx] at hd
        clear hx
        have g1 : decide ((k : Int) < t.size) = true := decide_eq_true (by omega)
        go_wp2_with fail
        go_quiet ((go_at_call 121; exact Calls.quiet_of_same ((isDigit_any _ _).mono fun e w' h => ⟨h.1, h.2.symm⟩)))
        go_wp2_with fail
        have hr2 := (hr.below (drewN_below wr nq)).set (k + 1) hlt
        push_cast at hr2
        go_roundw
        case rel => exact ⟨k + 1, by omega, by omega, HR.out.trans HG.out, hr2, (hw.trans (To.of (drewN_below wr nq))).trans (To.set r _ 1 _)⟩
        case measure => rw [hr2.lef, hr.lef]; omega
      · have HK : Hid (numEnd t i = k) := Lib.hid (HE0.out.trans (HR.out.trans (run_stop hlt)))
        have hcond : ∀ (P : Prop), (∀ (hh : k < t.size), digB (byI t k) = false → P) → ((k : Int) < t.size → False) → True := fun _ _ _ => trivial
        clear hcond
        obtain ⟨s, hs⟩ : ∃ s, t.extract i k = s := ⟨_, rfl⟩
        have hsz : s.size ≤ 1048576 := by rw [← hs, ByteArray.size_extract]; omega
        have HN : Hid (pNum t i = canon s.data.toList) := Lib.hid (by unfold pNum; rw [HK.out, hs])
        have HS := Lib.hid hs
        have two : (k < t.size ∧ digB (byI t k) = false) ∨ ¬ k < t.size := by
          by_cases h1 : k < t.size
          · exact .inl ⟨h1, by simpa [h1] using hlt⟩
          · exact .inr h1
        clear hlt HR hk1
        rcases two with ⟨hlt, hd⟩ | hlt
        · obtain ⟨x, hx⟩ : ∃ x : Int, byI t k = x := ⟨_, rfl⟩
          have hx' : (t[k].toNat : Int) = x := by rw [← hx, byI_eq hlt]
          rw [hx] at hd
          clear hx
          have g1 : decide ((k : Int) < t.size) = true := decide_eq_true (by omega)
          go_wp2_with fail
          go_quiet ((go_at_call 121; exact Calls.quiet_of_same ((isDigit_any _ _).mono fun e w' h => ⟨h.1, h.2.symm⟩)))
          clear g1 hx' hd
          revert nq
          intro n1
          go_wp2_with fail
          go_quiet (fail)
          have hD := drewN_below wr (n1 + nq)
          have hr2 := hr.below hD
          have hw2 := hw.trans (To.of hD)
          clear hD hr hw k0 k1 k2 hik hkt
          by_cases hp : ∃ v, Lib.parseIntB 64 s.data.toList = .ok v
          · obtain ⟨v, hp⟩ := hp
            have HP := Lib.hid (canon_ok hp)
            have hv := parse_rng hp
            have HPP := Lib.hid hp
            clear hp
            by_cases hq : decS v = s
            · have HC : Hid (canon s.data.toList = some v) := Lib.hid (by rw [HP.out, ← hq]; exact if_pos rfl)
              clear HP HS
              subst hq
              go_wp2_with (first
                | (go_at_call 176; refine (parse_ok _ hsz v HPP.out _).mono ?_; rintro e w3 ⟨rfl, hb3⟩)
                | (go_at_call 177; refine (format_any v hv.1 hv.2 _ (hr2.env.below hb3)).mono ?_; rintro e w4 ⟨rfl, hb4⟩))
              go_ret2
              have hb5 := hb3.trans (hb4.mono hb3.size)
              exact ⟨by rw [HN.out, HC.out]; rfl, by rw [HK.out]; exact hr2.below hb5, hw2.trans (To.of hb5)⟩
            · have HC : Hid (canon s.data.toList = none) := Lib.hid (by rw [HP.out]; exact if_neg (fun e => hq (toList_inj' (by unfold decS; simpa using e))))
              clear HP HS
              have hq2 := str_ne hq
              go_wp2_with (first
                | (go_at_call 176; refine (parse_ok _ hsz v HPP.out _).mono ?_; rintro e w3 ⟨rfl, hb3⟩)
                | (go_at_call 177; refine (format_any v hv.1 hv.2 _ (hr2.env.below hb3)).mono ?_; rintro e w4 ⟨rfl, hb4⟩))
              all_goals first
                | (exfalso; exact hq (by assumption))
                | (go_ret2
                   have hb5 := hb3.trans (hb4.mono hb3.size)
                   exact ⟨by rw [HN.out, HC.out]; rfl, by rw [HK.out]; exact hr2.below hb5, hw2.trans (To.of hb5)⟩)
          · have hp : ∀ v, Lib.parseIntB 64 s.data.toList ≠ .ok v := fun v h => hp ⟨v, h⟩
            have HC := Lib.hid (canon_bad hp)
            have HPP := Lib.hid hp
            clear hp HS
            go_wp2_with (go_at_call 176; refine (parse_bad _ hsz HPP.out _ hr2.env).mono ?_; rintro e w3 ⟨v, T, p, rfl, hb3⟩)
            go_ret2
            exact ⟨by rw [HN.out, HC.out]; rfl, by rw [HK.out]; exact hr2.below hb3, hw2.trans (To.of hb3)⟩
        · have g1 : decide ((k : Int) < t.size) = false := decide_eq_false (by omega)
          go_wp2_with fail
          go_quiet ((go_at_call 121; exact Calls.quiet_of_same ((isDigit_any _ _).mono fun e w' h => ⟨h.1, h.2.symm⟩)))
          clear g1
          revert nq
          intro n1
          go_wp2_with fail
          go_quiet (fail)
          have hD := drewN_below wr (n1 + nq)
          have hr2 := hr.below hD
          have hw2 := hw.trans (To.of hD)
          clear hD hr hw k0 k1 k2 hik hkt
          by_cases hp : ∃ v, Lib.parseIntB 64 s.data.toList = .ok v
          · obtain ⟨v, hp⟩ := hp
            have HP := Lib.hid (canon_ok hp)
            have hv := parse_rng hp
            have HPP := Lib.hid hp
            clear hp
            by_cases hq : decS v = s
            · have HC : Hid (canon s.data.toList = some v) := Lib.hid (by rw [HP.out, ← hq]; exact if_pos rfl)
              clear HP HS
              subst hq
              go_wp2_with (first
                | (go_at_call 176; refine (parse_ok _ hsz v HPP.out _).mono ?_; rintro e w3 ⟨rfl, hb3⟩)
                | (go_at_call 177; refine (format_any v hv.1 hv.2 _ (hr2.env.below hb3)).mono ?_; rintro e w4 ⟨rfl, hb4⟩))
              go_ret2
              have hb5 := hb3.trans (hb4.mono hb3.size)
              exact ⟨by rw [HN.out, HC.out]; rfl, by rw [HK.out]; exact hr2.below hb5, hw2.trans (To.of hb5)⟩
            · have HC : Hid (canon s.data.toList = none) := Lib.hid (by rw [HP.out]; exact if_neg (fun e => hq (toList_inj' (by unfold decS; simpa using e))))
              clear HP HS
              have hq2 := str_ne hq
              go_wp2_with (first
                | (go_at_call 176; refine (parse_ok _ hsz v HPP.out _).mono ?_; rintro e w3 ⟨rfl, hb3⟩)
                | (go_at_call 177; refine (format_any v hv.1 hv.2 _ (hr2.env.below hb3)).mono ?_; rintro e w4 ⟨rfl, hb4⟩))
              all_goals first
                | (exfalso; exact hq (by assumption))
                | (go_ret2
                   have hb5 := hb3.trans (hb4.mono hb3.size)
                   exact ⟨by rw [HN.out, HC.out]; rfl, by rw [HK.out]; exact hr2.below hb5, hw2.trans (To.of hb5)⟩)
          · have hp : ∀ v, Lib.parseIntB 64 s.data.toList ≠ .ok v := fun v h => hp ⟨v, h⟩
            have HC := Lib.hid (canon_bad hp)
            have HPP := Lib.hid hp
            clear hp HS
            go_wp2_with (go_at_call 176; refine (parse_bad _ hsz HPP.out _ hr2.env).mono ?_; rintro e w3 ⟨v, T, p, rfl, hb3⟩)
            go_ret2
            exact ⟨by rw [HN.out, HC.out]; rfl, by rw [HK.out]; exact hr2.below hb3, hw2.trans (To.of hb3)⟩
end Go.Proofs.YtllhimeffkefiaaGreatDoor
/- Values as trees, and how they lie in memory; impl's reading of numbers of things, things and points. Condition: texts of at most 2^20 bytes. -/
set_option linter.unusedVariables false
namespace Go.Proofs.YtllhimeffkefiaaGreatDoor
open Go.RowKit Go.Sort

/-- a value: its kind, two numbers, a text, names and items -/
inductive Val : Type
  | mk (kind n m : Int) (s : ByteArray) (names : List ByteArray) (items : List Val)
def Val.kind : Val → Int | .mk k _ _ _ _ _ => k
def Val.items : Val → List Val | .mk _ _ _ _ _ l => l
def flat (k n m : Int) (s : ByteArray) : Val := .mk k n m s [] []

/-! ### how a value lies: jn, ji: in which of the six cells the names and the items stand -/
mutual
def EV (jn ji : Nat) (w : World) (S : Nat → Prop) : (Nat → Value) → Val → Prop
  | f, .mk k n m s names items => f 0 = .int .i64 k ∧ f 1 = .int .i64 n ∧ f 2 = .int .i64 m ∧ f 3 = .string s ∧ RStr w S (f jn) names ∧ items.length ≤ 9223372036854775807 ∧
      ∃ a c, f ji = .slice a items.length c ∧ (items = [] ∨ ∃ b o, a = some ⟨b, o, none⟩ ∧ S b ∧ EVs jn ji w S b o items)
def EVs (jn ji : Nat) (w : World) (S : Nat → Prop) (b : Nat) : Nat → List Val → Prop
  | _, [] => True
  | o, x :: xs => (∃ f, (∀ j, j < 6 → w.cell? ⟨b, o + j, none⟩ = some (f j)) ∧ EV jn ji w S f x) ∧ EVs jn ji w S b (o + 6) xs
end
theorem EVs_get {jn ji : Nat} {w : World} {S : Nat → Prop} {b : Nat} : ∀ {xs : List Val} {o k : Nat} {x : Val}, EVs jn ji w S b o xs → xs[k]? = some x → ∃ f, (∀ j, j < 6 → w.cell? ⟨b, o + k * 6 + j, none⟩ = some (f j)) ∧ EV jn ji w S f x
  | [], o, k, x, _, h => by simp at h
  | y :: ys, o, 0, x, h, hk => by
    simp only [EVs] at h
    simp at hk
    subst hk
    simpa using h.1
  | y :: ys, o, k + 1, x, h, hk => by
    simp only [EVs] at h
    obtain ⟨f, h1, h2⟩ := EVs_get h.2 (by simpa using hk)
    exact ⟨f, fun j hj => by rw [show o + (k + 1) * 6 + j = o + 6 + k * 6 + j by omega]; exact h1 j hj, h2⟩
theorem EVs_mk {jn ji : Nat} {w : World} {S : Nat → Prop} {b : Nat} : ∀ {xs : List Val} {o : Nat}, (∀ k x, xs[k]? = some x → ∃ f, (∀ j, j < 6 → w.cell? ⟨b, o + k * 6 + j, none⟩ = some (f j)) ∧ EV jn ji w S f x) → EVs jn ji w S b o xs
  | [], o, _ => by simp [EVs]
  | y :: ys, o, h => by
    simp only [EVs]
    refine ⟨by simpa using h 0 y (by simp), EVs_mk fun k x hk => ?_⟩
    obtain ⟨f, h1, h2⟩ := h (k + 1) x (by simpa using hk)
    exact ⟨f, fun j hj => by rw [show o + 6 + k * 6 + j = o + (k + 1) * 6 + j by omega]; exact h1 j hj, h2⟩
/-- the same, the items as a row -/
theorem EV_iff {jn ji : Nat} {w : World} {S : Nat → Prop} {f : Nat → Value} {k n m : Int} {s : ByteArray} {names : List ByteArray} {items : List Val} :
    EV jn ji w S f (.mk k n m s names items) ↔ (f 0 = .int .i64 k ∧ f 1 = .int .i64 n ∧ f 2 = .int .i64 m ∧ f 3 = .string s ∧ RStr w S (f jn) names ∧ Row 6 (EV jn ji) w S (f ji) items) := by
  simp only [EV]
  constructor
  · rintro ⟨h0, h1, h2, h3, h4, hl, a, c, h5, h6⟩
    refine ⟨h0, h1, h2, h3, h4, a, c, h5, hl, fun k x hx => ?_⟩
    rcases h6 with rfl | ⟨b, o, rfl, hS, hE⟩
    · simp at hx
    · obtain ⟨g, g1, g2⟩ := EVs_get hE hx
      exact ⟨b, o, g, rfl, hS, g1, g2⟩
  · rintro ⟨h0, h1, h2, h3, h4, a, c, h5, hl, h6⟩
    refine ⟨h0, h1, h2, h3, h4, hl, a, c, h5, ?_⟩
    cases items with
    | nil => exact .inl rfl
    | cons y ys =>
      obtain ⟨b, o, g, ha, hS, _, _⟩ := h6 0 y (by simp)
      refine .inr ⟨b, o, ha, hS, EVs_mk fun k x hx => ?_⟩
      obtain ⟨b', o', g', ha', _, hc, he⟩ := h6 k x hx
      rw [ha] at ha'
      cases ha'
      exact ⟨g', hc, he⟩
mutual
theorem EV_kept (jn ji : Nat) {w w' : World} {S : Nat → Prop} (hk : ∀ b, S b → b < w.heap.size → w'.heap[b]? = w.heap[b]?) : ∀ (x : Val) (f : Nat → Value), EV jn ji w S f x → EV jn ji w' S f x
  | .mk k n m s names items, f, h => by
    simp only [EV] at h ⊢
    obtain ⟨h0, h1, h2, h3, h4, hl, a, c, h5, h6⟩ := h
    exact ⟨h0, h1, h2, h3, h4.kept EStr.kept hk, hl, a, c, h5, h6.imp_right fun ⟨b, o, ha, hS, hE⟩ => ⟨b, o, ha, hS, EVs_kept jn ji hk b hS items o hE⟩⟩
theorem EVs_kept (jn ji : Nat) {w w' : World} {S : Nat → Prop} (hk : ∀ b, S b → b < w.heap.size → w'.heap[b]? = w.heap[b]?) (b : Nat) (hS : S b) : ∀ (xs : List Val) (o : Nat), EVs jn ji w S b o xs → EVs jn ji w' S b o xs
  | [], o, _ => by simp [EVs]
  | x :: xs, o, h => by
    simp only [EVs] at h ⊢
    obtain ⟨⟨f, hc, he⟩, hr⟩ := h
    exact ⟨⟨f, fun j hj => cell_kept (hk b hS) (hc j hj), EV_kept jn ji hk x f he⟩, EVs_kept jn ji hk b hS xs (o + 6) hr⟩
end
mutual
theorem EV_mono (jn ji : Nat) {w : World} {S S' : Nat → Prop} (hk : ∀ b, S b → S' b) : ∀ (x : Val) (f : Nat → Value), EV jn ji w S f x → EV jn ji w S' f x
  | .mk k n m s names items, f, h => by
    simp only [EV] at h ⊢
    obtain ⟨h0, h1, h2, h3, h4, hl, a, c, h5, h6⟩ := h
    exact ⟨h0, h1, h2, h3, h4.mono EStr.mono hk, hl, a, c, h5, h6.imp_right fun ⟨b, o, ha, hS, hE⟩ => ⟨b, o, ha, hk b hS, EVs_mono jn ji hk b items o hE⟩⟩
theorem EVs_mono (jn ji : Nat) {w : World} {S S' : Nat → Prop} (hk : ∀ b, S b → S' b) (b : Nat) : ∀ (xs : List Val) (o : Nat), EVs jn ji w S b o xs → EVs jn ji w S' b o xs
  | [], o, _ => by simp [EVs]
  | x :: xs, o, h => by
    simp only [EVs] at h ⊢
    obtain ⟨⟨f, hc, he⟩, hr⟩ := h
    exact ⟨⟨f, hc, EV_mono jn ji hk x f he⟩, EVs_mono jn ji hk b xs (o + 6) hr⟩
end
theorem EV.kept (jn ji : Nat) : Elem.Kept (EV jn ji) := fun _ _ _ f x hk h => EV_kept jn ji hk x f h
theorem EV.mono (jn ji : Nat) : Elem.Mono (EV jn ji) := fun _ _ _ f x hk h => EV_mono jn ji hk x f h
/-- a value of impl's, as the machine holds it -/
def VI (w : World) (S : Nat → Prop) (v : Value) (x : Val) : Prop := ∃ f : Nat → Value, v = .agg #[f 0, f 1, f 2, f 3, f 4, f 5] ∧ EV 4 5 w S f x
theorem nilRow {α : Type} (sz : Nat) (E : Elem α) (w : World) (S : Nat → Prop) : Row sz E w S (.slice none 0 0) [] := ⟨none, 0, rfl, by simp, fun k x hx => by simp at hx⟩
theorem VI.flat (w : World) (S : Nat → Prop) (k n m : Int) (s : ByteArray) : VI w S (.agg #[.int .i64 k, .int .i64 n, .int .i64 m, .string s, .slice none 0 0, .slice none 0 0]) (flat k n m s) :=
  ⟨fun j => if j = 0 then .int .i64 k else if j = 1 then .int .i64 n else if j = 2 then .int .i64 m else if j = 3 then .string s else .slice none 0 0, rfl, EV_iff.2 ⟨rfl, rfl, rfl, rfl, nilRow _ _ _ _, nilRow _ _ _ _⟩⟩

/-- reading hands back a value and whether it is one -/
def ValR (r : Nat) (t : ByteArray) (p : Option (Val × Nat)) (w : World) (e : Ending) (w' : World) : Prop :=
  ∃ v x j, e = .returned (.tuple #[v, .bool p.isSome]) ∧ VI w' (fun b => w.heap.size ≤ b) v x ∧ Rs w' r t j ∧ To r w w' ∧ ∀ y k, p = some (y, k) → x = y ∧ j = k
/-- a number and whether it is one -/
def NumR' (r : Nat) (t : ByteArray) (p : Option Int) (k : Nat) (w : World) (e : Ending) (w' : World) : Prop :=
  ∃ n j, e = .returned (.tuple #[.int .i64 n, .bool p.isSome]) ∧ Rs w' r t j ∧ To r w w' ∧ ∀ y, p = some y → n = y ∧ j = k

/-- the number of a node or an edge -/
def okId (n : Int) : Bool := decide (1 ≤ n ∧ n ≤ 1000000000000)
def pId (t : ByteArray) (i : Nat) : Option Int := if digB (byI t i) then (pNum t i).filter okId else none

set_option maxHeartbeats 1000000 in
set_option maxRecDepth 100000 in
theorem id_any (w : World) (r : Nat) (t : ByteArray) (i : Nat) (h : Rs w r t i) : Calls Tryz.prog 180 #[.pointer (some ⟨r, 0, none⟩)] w (NumR' r t (pId t i) (numEnd t i) w) := by
  cases hd : digB (byI t i) with
  | false =>
    have HP : Hid (pId t i = none) := Lib.hid (by unfold pId; rw [hd]; rfl)
    go_enter Tryz.func180, Tryz.ntmps180
    go_wp2_with (first
      | (go_at_call 157; refine (peek_any _ r t i h).mono ?_; rintro e w1 ⟨rfl, hb1⟩)
      | (go_at_call 121; refine (isDigit_any _ _).mono ?_; rintro e w' ⟨rfl, rfl⟩))
    go_ret2
    exact ⟨0, i, by rw [HP.out]; rfl, h.below hb1, To.of hb1, fun y hy => by rw [HP.out] at hy; cases hy⟩
  | true =>
    cases hn : pNum t i with
    | none =>
      have HP : Hid (pId t i = none) := Lib.hid (by unfold pId; rw [hd, hn]; rfl)
      have HN := Lib.hid hn
      clear hn
      go_enter Tryz.func180, Tryz.ntmps180
      go_wp2_with (first
        | (go_at_call 157; refine (peek_any _ r t i h).mono ?_; rintro e w1 ⟨rfl, hb1⟩)
        | (go_at_call 121; refine (isDigit_any _ _).mono ?_; rintro e w' ⟨rfl, rfl⟩)
        | (go_at_call 160; refine (whole_any _ r t i (h.below hb1)).mono ?_; rintro e w2 ⟨he, hr2, ht2⟩; rw [HN.out] at he; subst he))
      go_ret2
      exact ⟨_, _, by rw [HP.out]; rfl, hr2, (To.of hb1).trans ht2, fun y hy => by rw [HP.out] at hy; cases hy⟩
    | some n =>
      have HN := Lib.hid hn
      by_cases hk : okId n = true
      · have HP : Hid (pId t i = some n) := Lib.hid (by unfold pId; rw [hd, hn]; simp [hk])
        have hk' : 1 ≤ n ∧ n ≤ 1000000000000 := by simpa [okId] using hk
        obtain ⟨k1, k2⟩ := hk'
        have k3 : decide (1 ≤ n) = true := decide_eq_true k1
        clear hn hk
        go_enter Tryz.func180, Tryz.ntmps180
        go_wp2_with (first
          | (go_at_call 157; refine (peek_any _ r t i h).mono ?_; rintro e w1 ⟨rfl, hb1⟩)
          | (go_at_call 121; refine (isDigit_any _ _).mono ?_; rintro e w' ⟨rfl, rfl⟩)
          | (go_at_call 160; refine (whole_any _ r t i (h.below hb1)).mono ?_; rintro e w2 ⟨he, hr2, ht2⟩; rw [HN.out] at he; subst he))
        go_ret2
        exact ⟨n, _, by rw [HP.out]; rfl, hr2, (To.of hb1).trans ht2, fun y hy => by rw [HP.out] at hy; cases hy; exact ⟨rfl, rfl⟩⟩
      · have HP : Hid (pId t i = none) := Lib.hid (by unfold pId; rw [hd, hn]; simp [hk])
        have hk' : n < 1 ∨ 1000000000000 < n := by
          have : ¬ (1 ≤ n ∧ n ≤ 1000000000000) := by simpa [okId] using hk
          omega
        clear hn hk
        rcases hk' with k1 | k2
        · go_enter Tryz.func180, Tryz.ntmps180
          go_wp2_with (first
            | (go_at_call 157; refine (peek_any _ r t i h).mono ?_; rintro e w1 ⟨rfl, hb1⟩)
            | (go_at_call 121; refine (isDigit_any _ _).mono ?_; rintro e w' ⟨rfl, rfl⟩)
            | (go_at_call 160; refine (whole_any _ r t i (h.below hb1)).mono ?_; rintro e w2 ⟨he, hr2, ht2⟩; rw [HN.out] at he; subst he))
          go_ret2
          exact ⟨n, _, by rw [HP.out]; rfl, hr2, (To.of hb1).trans ht2, fun y hy => by rw [HP.out] at hy; cases hy⟩
        · have k3 : 1 ≤ n := by omega
          go_enter Tryz.func180, Tryz.ntmps180
          go_wp2_with (first
            | (go_at_call 157; refine (peek_any _ r t i h).mono ?_; rintro e w1 ⟨rfl, hb1⟩)
            | (go_at_call 121; refine (isDigit_any _ _).mono ?_; rintro e w' ⟨rfl, rfl⟩)
            | (go_at_call 160; refine (whole_any _ r t i (h.below hb1)).mono ?_; rintro e w2 ⟨he, hr2, ht2⟩; rw [HN.out] at he; subst he))
          go_ret2
          exact ⟨n, _, by rw [HP.out]; show Ending.returned (.tuple #[.int .i64 n, .bool (decide (n ≤ 1000000000000))]) = _; rw [decide_eq_false (by omega)]; rfl, hr2, (To.of hb1).trans ht2, fun y hy => by rw [HP.out] at hy; cases hy⟩
end Go.Proofs.YtllhimeffkefiaaGreatDoor
/- impl's reading of nodes and edges named in a value. Condition: texts of at most 2^20 bytes. -/
set_option linter.unusedVariables false
namespace Go.Proofs.YtllhimeffkefiaaGreatDoor
open Go.RowKit Go.Sort

abbrev e0 : ByteArray := ⟨#[]⟩
theorem To.alloc (r : Nat) (w : World) (o : Obj) : To r w (w.alloc o) := To.of ((Below.refl _ w).alloc (Nat.le_refl _) o)
theorem To.setNew {r : Nat} {w w' : World} (h : To r w w') {a : Addr} (ha : w.heap.size ≤ a.block) (v : Value) : To r w (w'.setCell a v) :=
  ⟨h.os, h.tape, h.output, by rw [show (w'.setCell a v).heap.size = w'.heap.size by simp [World.setCell]]; exact h.size, fun b hb hne => (Below.heap_setCell _ _ _ _ (by omega)).trans (h.block b hb hne)⟩
theorem To.sets {r : Nat} {w : World} {g : Nat} (hg : w.heap.size ≤ g) : ∀ (us : List Value) (o : Nat) {w' : World}, To r w w' → To r w (sets w' g o us)
  | [], o, w', h => h
  | u :: us, o, w', h => To.sets hg us (o + 1) (h.setNew (a := ⟨g, o, none⟩) hg u)
theorem Rs.to {w : World} {r : Nat} {t : ByteArray} {i : Nat} (h : Rs w r t i) {w1 : World} {j : Nat} (h1 : Rs w1 r t j) {a : Addr} (ha : w.heap.size ≤ a.block) (v : Value) : Rs (w1.setCell a v) r t j := by
  have hr : a.block ≠ r := fun e => by have := h.lt; omega
  refine ⟨?_, ?_, (World.frozen?_setCell _ _ _ _).trans h1.f1, h1.env.kept (by simp [World.setCell]) (fun b hb => Below.heap_setCell _ _ _ _ (fun e => ?_)), h1.ng, h1.le, h1.sz⟩
  · exact (World.cell?_setCell_other _ _ _ _ (by rintro rfl; exact hr rfl)).trans h1.c0
  · exact (World.cell?_setCell_other _ _ _ _ (by rintro rfl; exact hr rfl)).trans h1.c1
  · have := h.env.siz b hb
    omega
theorem Rs.sets {w : World} {r : Nat} {t : ByteArray} {i : Nat} (h : Rs w r t i) {g : Nat} (hg : w.heap.size ≤ g) {j : Nat} : ∀ (us : List Value) (o : Nat) {w1 : World}, Rs w1 r t j → Rs (sets w1 g o us) r t j
  | [], o, w1, h1 => h1
  | u :: us, o, w1, h1 => Rs.sets h hg us (o + 1) (h.to h1 (a := ⟨g, o, none⟩) hg u)
/-- what an older block holds stays -/
theorem tcell {r : Nat} {W w1 : World} (hb : To r W w1) : (∀ b o, b < W.heap.size → b ≠ r → w1.cell? ⟨b, o, none⟩ = W.cell? ⟨b, o, none⟩) ∧ (∀ b o, b < W.heap.size → b ≠ r → w1.frozen? ⟨b, o, none⟩ = W.frozen? ⟨b, o, none⟩) :=
  ⟨fun b o h hn => World.cell?_of_block (a := ⟨b, o, none⟩) (hb.block b h hn), fun b o h hn => by
    unfold World.frozen?
    rw [show w1.heap[b]? = W.heap[b]? from hb.block b h hn]⟩

/-- the cells of a value that was made lately -/
theorem boxOf {r : Nat} {w w1 : World} {a0 a1 a2 a3 a4 a5 : Value} {T : Nat} (h : To r (w.alloc (.cells #[a0, a1, a2, a3, a4, a5] T)) w1) (hne : w.heap.size ≠ r) :
    w1.cell? ⟨w.heap.size, 0, none⟩ = some a0 ∧ w1.cell? ⟨w.heap.size, 1, none⟩ = some a1 ∧ w1.cell? ⟨w.heap.size, 2, none⟩ = some a2 ∧ w1.cell? ⟨w.heap.size, 3, none⟩ = some a3 ∧ w1.cell? ⟨w.heap.size, 4, none⟩ = some a4 ∧ w1.cell? ⟨w.heap.size, 5, none⟩ = some a5 ∧ (∀ o, w1.frozen? ⟨w.heap.size, o, none⟩ = false) ∧ w.heap.size < w1.heap.size := by
  obtain ⟨h1, h2⟩ := tcell h
  have hs : w.heap.size < (w.alloc (.cells #[a0, a1, a2, a3, a4, a5] T)).heap.size := by simp
  refine ⟨?_, ?_, ?_, ?_, ?_, ?_, ?_, Nat.lt_of_lt_of_le hs h.size⟩
  iterate 6 rw [h1 _ _ hs hne, World.cell?_alloc_mark]; rfl
  intro o
  rw [h2 _ _ hs hne, World.frozen?_alloc_mark]
  simp

theorem valR_flat {r : Nat} {t : ByteArray} {w w3 : World} {i j : Nat} {k n m : Int} {s : ByteArray} {p : Option (Val × Nat)} {b : Bool} (h : Rs w r t i) (hr : Rs w3 r t j) (ht : To r w w3) (hb : b = p.isSome)
    (hp : ∀ y k', p = some (y, k') → flat k n m s = y ∧ j = k') (us : List Value) :
    ValR r t p w (.returned (.tuple #[.agg #[.int .i64 k, .int .i64 n, .int .i64 m, .string s, .slice none 0 0, .slice none 0 0], .bool b])) (sets w3 w.heap.size 0 us) :=
  ⟨_, flat k n m s, j, by rw [hb], VI.flat _ _ _ _ _ _, h.sets (Nat.le_refl _) _ _ hr, To.sets (Nat.le_refl _) _ _ ht, hp⟩

def pThing (t : ByteArray) (i : Nat) : Option (Val × Nat) :=
  if byI t i = 101 then (pId t (i + 1)).map fun n => (flat 9 n 0 e0, numEnd t (i + 1))
  else if byI t i = 110 then (pId t (i + 1)).map fun n => (flat 8 n 0 e0, numEnd t (i + 1)) else none
theorem pThing_some {k : Int} {t : ByteArray} {i : Nat} {n : Int} {j : Nat} (h : ∀ y, pId t i = some y → n = y ∧ j = numEnd t i) : ∀ (y : Val) (k' : Nat), (pId t i).map (fun n => (flat k n 0 e0, numEnd t i)) = some (y, k') → flat k n 0 e0 = y ∧ j = k' := by
  intro y k' he
  cases hp : pId t i with
  | none => rw [hp] at he; cases he
  | some m =>
    rw [hp] at he
    cases he
    obtain ⟨rfl, rfl⟩ := h m hp
    exact ⟨rfl, rfl⟩

set_option maxHeartbeats 1000000 in
set_option maxRecDepth 100000 in
theorem thing_any (w : World) (r : Nat) (t : ByteArray) (i : Nat) (h : Rs w r t i) : Calls Tryz.prog 166 #[.pointer (some ⟨r, 0, none⟩)] w (ValR r t (pThing t i) w) := by
  have hlt := h.lt
  have hne : w.heap.size ≠ r := by omega
  have hsz := h.sz
  have ha := (To.alloc r w (.cells #[.int .i64 0, .int .i64 0, .int .i64 0, .string ⟨#[]⟩, .slice none 0 0, .slice none 0 0] 184))
  have h0 := h.below ((Below.refl _ w).alloc (Nat.le_refl _) (.cells #[.int .i64 0, .int .i64 0, .int .i64 0, .string ⟨#[]⟩, .slice none 0 0, .slice none 0 0] 184))
  by_cases c1 : byI t i = 101
  · have HP : Hid (pThing t i = (pId t (i + 1)).map fun n => (flat 9 n 0 e0, numEnd t (i + 1))) := Lib.hid (by unfold pThing; rw [if_pos c1])
    have hit : i < t.size := byI_lt (by omega)
    have hz : (i : Int) + 1 ≤ 1048576 := by omega
    have c1' : (byI t i == 101) = true := by simpa using c1
    clear c1
    go_enter Tryz.func166, Tryz.ntmps166
    go_wp2_with (first
      | (go_at_call 157; refine (peek_any _ r t i h0).mono ?_; rintro e w1 ⟨rfl, hb1⟩; have h1 := h0.below hb1; have q0 := h1.c0; have q1 := h1.c1; have q2 := h1.f1; have hw1 := ha.trans (To.of hb1); have h2 := h1.set (i + 1) hit; have hw2 := hw1.trans (To.set r _ 1 (.int .i64 ((i + 1 : Nat)))); push_cast at h2 hw2)
      | (go_at_call 180; refine (id_any _ r t (i + 1) h2).mono ?_; rintro e w3 ⟨n, j, rfl, hr3, ht3, hp3⟩; obtain ⟨b0, b1, b2, b3, b4, b5, bf, bz⟩ := boxOf (((To.of hb1).trans (To.set r _ 1 (.int .i64 ((i + 1 : Nat))))).trans ht3) hne))
    exact bodyPost_ret (v := .tuple #[.agg #[.int .i64 9, .int .i64 n, .int .i64 0, .string ⟨#[]⟩, .slice none 0 0, .slice none 0 0], .bool (pId t (i + 1)).isSome]) (by simp [results, Tryz.results166, go_sem, b0, b1, b2, b3, b4, b5]) rfl
      (valR_flat h hr3 (hw2.trans ht3) (by rw [HP.out]; simp) (fun y k' hy => by rw [HP.out] at hy; exact pThing_some hp3 y k' hy) [.int .i64 9, .int .i64 n, .int .i64 0, .string ⟨#[]⟩, .slice none 0 0, .slice none 0 0])
  · by_cases c2 : byI t i = 110
    · have HP : Hid (pThing t i = (pId t (i + 1)).map fun n => (flat 8 n 0 e0, numEnd t (i + 1))) := Lib.hid (by unfold pThing; rw [if_neg c1, if_pos c2])
      have hit : i < t.size := byI_lt (by omega)
      have hz : (i : Int) + 1 ≤ 1048576 := by omega
      have c1' : (byI t i == 101) = false := by simpa using c1
      have c2' : (byI t i != 110) = false := by simpa using c2
      clear c1 c2
      have tok : True := trivial
      go_enter Tryz.func166, Tryz.ntmps166
      go_wp2_with (first
        | (go_at_call 157; clear tok; refine (peek_any _ r t i h0).mono ?_; rintro e w0 ⟨rfl, hb0⟩; have h1' := h0.below hb0)
        | (go_at_call 157; refine (peek_any _ r t i h1').mono ?_; rintro e w1 ⟨rfl, hb1'⟩; have hb1 := hb0.trans (hb1'.mono hb0.size); have h1 := h0.below hb1; have q0 := h1.c0; have q1 := h1.c1; have q2 := h1.f1; have hw1 := ha.trans (To.of hb1); have h2 := h1.set (i + 1) hit; have hw2 := hw1.trans (To.set r _ 1 (.int .i64 ((i + 1 : Nat)))); push_cast at h2 hw2)
        | (go_at_call 180; refine (id_any _ r t (i + 1) h2).mono ?_; rintro e w3 ⟨n, j, rfl, hr3, ht3, hp3⟩; obtain ⟨b0, b1, b2, b3, b4, b5, bf, bz⟩ := boxOf (((To.of hb1).trans (To.set r _ 1 (.int .i64 ((i + 1 : Nat))))).trans ht3) hne))
      exact bodyPost_ret (v := .tuple #[.agg #[.int .i64 8, .int .i64 n, .int .i64 0, .string ⟨#[]⟩, .slice none 0 0, .slice none 0 0], .bool (pId t (i + 1)).isSome]) (by simp [results, Tryz.results166, go_sem, b0, b1, b2, b3, b4, b5]) rfl
        (valR_flat h hr3 (hw2.trans ht3) (by rw [HP.out]; simp) (fun y k' hy => by rw [HP.out] at hy; exact pThing_some hp3 y k' hy) [.int .i64 8, .int .i64 n, .int .i64 0, .string ⟨#[]⟩, .slice none 0 0, .slice none 0 0])
    · have HP : Hid (pThing t i = none) := Lib.hid (by unfold pThing; rw [if_neg c1, if_neg c2])
      have c1' : (byI t i == 101) = false := by simpa using c1
      have c2' : (byI t i != 110) = true := by simpa using c2
      clear c1 c2
      have tok : True := trivial
      go_enter Tryz.func166, Tryz.ntmps166
      go_wp2_with (first
        | (go_at_call 157; clear tok; refine (peek_any _ r t i h0).mono ?_; rintro e w0 ⟨rfl, hb0⟩; have h1' := h0.below hb0)
        | (go_at_call 157; refine (peek_any _ r t i h1').mono ?_; rintro e w1 ⟨rfl, hb1'⟩; have hb1 := hb0.trans (hb1'.mono hb0.size); have h1 := h0.below hb1; have hw1 := ha.trans (To.of hb1); obtain ⟨b0, b1, b2, b3, b4, b5, bf, bz⟩ := boxOf (r := r) (To.of hb1) hne))
      exact bodyPost_ret (v := .tuple #[.agg #[.int .i64 0, .int .i64 0, .int .i64 0, .string ⟨#[]⟩, .slice none 0 0, .slice none 0 0], .bool false]) (by simp [results, Tryz.results166, go_sem, b0, b1, b2, b3, b4, b5]) rfl
        (valR_flat h h1 hw1 (by rw [HP.out]; rfl) (fun y k' hy => by rw [HP.out] at hy; cases hy) [.int .i64 0, .int .i64 0, .int .i64 0, .string ⟨#[]⟩, .slice none 0 0, .slice none 0 0])
end Go.Proofs.YtllhimeffkefiaaGreatDoor
/- impl's reading of points. Condition: texts of at most 2^20 bytes. -/
set_option linter.unusedVariables false
namespace Go.Proofs.YtllhimeffkefiaaGreatDoor
open Go.RowKit Go.Sort

theorem begB_one (t : ByteArray) (i : Nat) (c : UInt8) (hc : c.toNat ≠ 0) : begB t i ⟨#[c]⟩ = decide (byI t i = c.toNat) := by
  unfold begB Lib.hasPrefix byI
  have e : (t.extract i t.size).data.toList = t.data.toList.drop i := by
    rw [ByteArray.data_extract, Array.toList_extract]
    simp [List.extract_eq_take_drop]
    rw [List.take_of_length_le]
    rw [List.length_drop, Array.length_toList]
    show t.data.size - i ≤ t.data.size - i
    exact Nat.le_refl _
  rw [e]
  by_cases h : i < t.size
  · rw [dif_pos h]
    have h' : i < t.data.toList.length := by rw [Array.length_toList]; exact h
    rw [List.drop_eq_getElem_cons h']
    have e2 : t.data.toList[i] = t[i] := by rw [Array.getElem_toList]; rfl
    simp only [List.isPrefixOf, Bool.and_true, e2]
    rw [Bool.eq_iff_iff]
    simp only [beq_iff_eq, decide_eq_true_eq]
    constructor
    · intro h; rw [← h]
    · intro h; exact UInt8.toNat_inj.1 (by omega)
  · rw [dif_neg h, List.drop_eq_nil_of_le (by rw [Array.length_toList]; show t.size ≤ i; omega)]
    simp [List.isPrefixOf]
    omega
theorem eat1_yes (w : World) (r : Nat) (t : ByteArray) (i : Nat) (c : UInt8) (h : Rs w r t i) (hc : c.toNat ≠ 0) (hb : byI t i = c.toNat) : Calls Tryz.prog 165 #[.pointer (some ⟨r, 0, none⟩), .string ⟨#[c]⟩] w (RdB r t true (i + 1) w) :=
  eat_yes w r t i ⟨#[c]⟩ h (by rw [begB_one t i c hc, decide_eq_true hb])
theorem eat1_no (w : World) (r : Nat) (t : ByteArray) (i : Nat) (c : UInt8) (h : Rs w r t i) (hc : c.toNat ≠ 0) (hb : ¬ byI t i = c.toNat) : Calls Tryz.prog 165 #[.pointer (some ⟨r, 0, none⟩), .string ⟨#[c]⟩] w (RdB r t false i w) :=
  eat_no w r t i ⟨#[c]⟩ h (by rw [begB_one t i c hc, decide_eq_false hb])
def RdE (r : Nat) (t : ByteArray) (w : World) (e : Ending) (w' : World) : Prop := ∃ b i, e = .returned (.bool b) ∧ Rs w' r t i ∧ To r w w'
theorem eat_some (w : World) (r : Nat) (t : ByteArray) (i : Nat) (p : ByteArray) (h : Rs w r t i) : Calls Tryz.prog 165 #[.pointer (some ⟨r, 0, none⟩), .string p] w (RdE r t w) := by
  cases hb : begB t i p with
  | true => exact (eat_yes w r t i p h hb).mono fun e w' ⟨h1, h2, h3⟩ => ⟨_, _, h1, h2, h3⟩
  | false => exact (eat_no w r t i p h hb).mono fun e w' ⟨h1, h2, h3⟩ => ⟨_, _, h1, h2, h3⟩
theorem byI_lt' {t : ByteArray} {i : Nat} {c : UInt8} (hc : c.toNat ≠ 0) (h : byI t i = c.toNat) : i < t.size := byI_lt (by omega)

def mil (x : Int) : Bool := decide (-1000000 ≤ x ∧ x ≤ 1000000)
def pPoint2 (t : ByteArray) (x : Int) (j : Nat) : Option (Val × Nat) :=
  match pNum t j with
  | none => none
  | some y => if byI t (numEnd t j) = 41 ∧ mil x = true ∧ mil y = true then some (flat 5 x y e0, numEnd t j + 1) else none
/-- a point; i: at its '(' -/
def pPoint (t : ByteArray) (i : Nat) : Option (Val × Nat) :=
  match pNum t (i + 1) with
  | none => none
  | some x => if byI t (numEnd t (i + 1)) = 32 then pPoint2 t x (numEnd t (i + 1) + 1) else none
theorem mil_no {x : Int} (h : x < -1000000 ∨ 1000000 < x) : ¬ mil x = true := by simp [mil]; omega
theorem mil_yes {x : Int} (h : ¬ x < -1000000) (h' : ¬ 1000000 < x) : mil x = true := by simp [mil]; omega

set_option maxHeartbeats 2000000 in
set_option maxRecDepth 100000 in
theorem point_any (w : World) (r : Nat) (t : ByteArray) (i : Nat) (h : Rs w r t i) (hi : byI t i = 40) : Calls Tryz.prog 161 #[.pointer (some ⟨r, 0, none⟩)] w (ValR r t (pPoint t i) w) := by
  have hlt := h.lt
  have hne : w.heap.size ≠ r := by omega
  have h0 := h.below ((Below.refl _ w).alloc (Nat.le_refl _) (.cells #[.int .i64 0, .int .i64 0, .int .i64 0, .string ⟨#[]⟩, .slice none 0 0, .slice none 0 0] 184))
  have ha := (To.alloc r w (.cells #[.int .i64 0, .int .i64 0, .int .i64 0, .string ⟨#[]⟩, .slice none 0 0, .slice none 0 0] 184))
  have HI := Lib.hid hi
  clear hi
  cases h1 : pNum t (i + 1) with
  | none =>
    have HP : Hid (pPoint t i = none) := Lib.hid (by unfold pPoint; rw [h1])
    have H1 := Lib.hid h1
    clear h1
    have tok : True := trivial
    go_enter Tryz.func161, Tryz.ntmps161
    go_wp2_with (first
      | (go_at_call 165; clear tok; refine (eat1_yes _ r t i 40 h0 (by decide) HI.out).mono ?_; rintro e w1 ⟨rfl, hr1, ht1⟩)
      | (go_at_call 160; refine (whole_any _ r t (i + 1) hr1).mono ?_; rintro e w2 ⟨he, hr2, ht2⟩; rw [H1.out] at he; subst he)
      | (go_at_call 165; refine (eat_some _ r t _ _ hr2).mono ?_; rintro e w3 ⟨b, j, rfl, hr3, ht3⟩; obtain ⟨b0, b1, b2, b3, b4, b5, bf, bz⟩ := boxOf ((ht1.trans ht2).trans ht3) hne))
    all_goals
      exact bodyPost_ret (v := .tuple #[.agg #[.int .i64 0, .int .i64 0, .int .i64 0, .string ⟨#[]⟩, .slice none 0 0, .slice none 0 0], .bool false]) (by simp [results, Tryz.results161, go_sem, b0, b1, b2, b3, b4, b5]) rfl
        (valR_flat h hr3 (((ha.trans ht1).trans ht2).trans ht3) (by rw [HP.out]; rfl) (fun y k' hy => by rw [HP.out] at hy; cases hy) [.int .i64 0, .int .i64 0, .int .i64 0, .string ⟨#[]⟩, .slice none 0 0, .slice none 0 0])
  | some x =>
    have H1 := Lib.hid h1
    by_cases hs : byI t (numEnd t (i + 1)) = 32
    · have HP : Hid (pPoint t i = pPoint2 t x (numEnd t (i + 1) + 1)) := Lib.hid (by unfold pPoint; rw [h1]; simp only [hs, if_true])
      have HS := Lib.hid hs
      clear h1 hs
      obtain ⟨j, hj⟩ : ∃ j, numEnd t (i + 1) = j := ⟨_, rfl⟩
      rw [hj] at HP HS
      have HJ := Lib.hid hj
      clear hj
      cases h2 : pNum t (j + 1) with
      | none =>
        have HP2 : Hid (pPoint t i = none) := Lib.hid (by rw [HP.out]; unfold pPoint2; rw [h2])
        have H2 := Lib.hid h2
        clear h2
        have tok : True := trivial
        have tok2 : True := trivial
        go_enter Tryz.func161, Tryz.ntmps161
        go_wp2_with (first
          | (go_at_call 165; clear tok; refine (eat1_yes _ r t i 40 h0 (by decide) HI.out).mono ?_; rintro e w1 ⟨rfl, hr1, ht1⟩)
          | (go_at_call 160; clear tok2; refine (whole_any _ r t (i + 1) hr1).mono ?_; rintro e w2 ⟨he, hr2, ht2⟩; rw [H1.out] at he; subst he; rw [HJ.out] at hr2)
          | (go_at_call 165; refine (eat1_yes _ r t _ 32 hr2 (by decide) HS.out).mono ?_; rintro e w3 ⟨rfl, hr3, ht3⟩)
          | (go_at_call 160; refine (whole_any _ r t (j + 1) hr3).mono ?_; rintro e w4 ⟨he, hr4, ht4⟩; rw [H2.out] at he; subst he; obtain ⟨b0, b1, b2, b3, b4, b5, bf, bz⟩ := boxOf (((ht1.trans ht2).trans ht3).trans ht4) hne))
        exact bodyPost_ret (v := .tuple #[.agg #[.int .i64 0, .int .i64 0, .int .i64 0, .string ⟨#[]⟩, .slice none 0 0, .slice none 0 0], .bool false]) (by simp [results, Tryz.results161, go_sem, b0, b1, b2, b3, b4, b5]) rfl
          (valR_flat h hr4 ((((ha.trans ht1).trans ht2).trans ht3).trans ht4) (by rw [HP2.out]; rfl) (fun y k' hy => by rw [HP2.out] at hy; cases hy) [.int .i64 0, .int .i64 0, .int .i64 0, .string ⟨#[]⟩, .slice none 0 0, .slice none 0 0])
      | some y =>
        have H2 := Lib.hid h2
        obtain ⟨k, hk⟩ : ∃ k, numEnd t (j + 1) = k := ⟨_, rfl⟩
        have HK := Lib.hid hk
        by_cases he : byI t k = 41
        · have HE := Lib.hid he
          rcases (show x < -1000000 ∨ (¬ x < -1000000 ∧ 1000000 < x) ∨ (¬ x < -1000000 ∧ ¬ 1000000 < x ∧ y < -1000000) ∨ (¬ x < -1000000 ∧ ¬ 1000000 < x ∧ ¬ y < -1000000 ∧ 1000000 < y) ∨ (¬ x < -1000000 ∧ ¬ 1000000 < x ∧ ¬ y < -1000000 ∧ ¬ 1000000 < y) by omega) with x1 | ⟨x1, x2⟩ | ⟨x1, x2, x3⟩ | ⟨x1, x2, x3, x4⟩ | ⟨x1, x2, x3, x4⟩
          rotate_left 4
          · have HP2 : Hid (pPoint t i = some (flat 5 x y e0, k + 1)) := Lib.hid (by rw [HP.out]; unfold pPoint2; rw [h2]; simp only [hk]; rw [if_pos ⟨he, mil_yes x1 x2, mil_yes x3 x4⟩])
            clear h2 he hk
            have tok : True := trivial
            have tok2 : True := trivial
            have tok3 : True := trivial
            go_enter Tryz.func161, Tryz.ntmps161
            go_wp2_with (first
              | (go_at_call 165; clear tok; refine (eat1_yes _ r t i 40 h0 (by decide) HI.out).mono ?_; rintro e w1 ⟨rfl, hr1, ht1⟩)
              | (go_at_call 160; clear tok2; refine (whole_any _ r t (i + 1) hr1).mono ?_; rintro e w2 ⟨he, hr2, ht2⟩; rw [H1.out] at he; subst he; rw [HJ.out] at hr2)
              | (go_at_call 165; clear tok3; refine (eat1_yes _ r t _ 32 hr2 (by decide) HS.out).mono ?_; rintro e w3 ⟨rfl, hr3, ht3⟩)
              | (go_at_call 160; refine (whole_any _ r t (j + 1) hr3).mono ?_; rintro e w4 ⟨he, hr4, ht4⟩; rw [H2.out] at he; subst he; rw [HK.out] at hr4)
              | (go_at_call 165; refine (eat1_yes _ r t _ 41 hr4 (by decide) HE.out).mono ?_; rintro e w5 ⟨rfl, hr5, ht5⟩; obtain ⟨b0, b1, b2, b3, b4, b5, bf, bz⟩ := boxOf ((((ht1.trans ht2).trans ht3).trans ht4).trans ht5) hne))
            exact bodyPost_ret (v := .tuple #[.agg #[.int .i64 5, .int .i64 x, .int .i64 y, .string ⟨#[]⟩, .slice none 0 0, .slice none 0 0], .bool true]) (by simp [results, Tryz.results161, go_sem, b0, b1, b2, b3, b4, b5]) rfl
              (valR_flat h hr5 (((((ha.trans ht1).trans ht2).trans ht3).trans ht4).trans ht5) (by rw [HP2.out]; rfl) (fun y k' hy => by rw [HP2.out] at hy; cases hy; exact ⟨rfl, rfl⟩) [.int .i64 5, .int .i64 x, .int .i64 y, .string ⟨#[]⟩, .slice none 0 0, .slice none 0 0])
          all_goals
            have HP2 : Hid (pPoint t i = none) := Lib.hid (by rw [HP.out]; unfold pPoint2; rw [h2]; exact if_neg (by rintro ⟨_, m1, m2⟩; simp [mil] at m1 m2; omega))
            clear h2 he hk
            have tok : True := trivial
            have tok2 : True := trivial
            have tok3 : True := trivial
            go_enter Tryz.func161, Tryz.ntmps161
            go_wp2_with (first
              | (go_at_call 165; clear tok; refine (eat1_yes _ r t i 40 h0 (by decide) HI.out).mono ?_; rintro e w1 ⟨rfl, hr1, ht1⟩)
              | (go_at_call 160; clear tok2; refine (whole_any _ r t (i + 1) hr1).mono ?_; rintro e w2 ⟨he, hr2, ht2⟩; rw [H1.out] at he; subst he; rw [HJ.out] at hr2)
              | (go_at_call 165; clear tok3; refine (eat1_yes _ r t _ 32 hr2 (by decide) HS.out).mono ?_; rintro e w3 ⟨rfl, hr3, ht3⟩)
              | (go_at_call 160; refine (whole_any _ r t (j + 1) hr3).mono ?_; rintro e w4 ⟨he, hr4, ht4⟩; rw [H2.out] at he; subst he; rw [HK.out] at hr4)
              | (go_at_call 165; refine (eat1_yes _ r t _ 41 hr4 (by decide) HE.out).mono ?_; rintro e w5 ⟨rfl, hr5, ht5⟩; obtain ⟨b0, b1, b2, b3, b4, b5, bf, bz⟩ := boxOf ((((ht1.trans ht2).trans ht3).trans ht4).trans ht5) hne))
            exact bodyPost_ret (v := .tuple #[.agg #[.int .i64 0, .int .i64 0, .int .i64 0, .string ⟨#[]⟩, .slice none 0 0, .slice none 0 0], .bool false]) (by simp [results, Tryz.results161, go_sem, b0, b1, b2, b3, b4, b5]) rfl
              (valR_flat h hr5 (((((ha.trans ht1).trans ht2).trans ht3).trans ht4).trans ht5) (by rw [HP2.out]; rfl) (fun y k' hy => by rw [HP2.out] at hy; cases hy) [.int .i64 0, .int .i64 0, .int .i64 0, .string ⟨#[]⟩, .slice none 0 0, .slice none 0 0])
        · have HE := Lib.hid he
          have HP2 : Hid (pPoint t i = none) := Lib.hid (by rw [HP.out]; unfold pPoint2; rw [h2]; exact if_neg (by rintro ⟨m0, _, _⟩; rw [hk] at m0; exact he m0))
          clear h2 he hk
          have tok : True := trivial
          have tok2 : True := trivial
          have tok3 : True := trivial
          go_enter Tryz.func161, Tryz.ntmps161
          go_wp2_with (first
            | (go_at_call 165; clear tok; refine (eat1_yes _ r t i 40 h0 (by decide) HI.out).mono ?_; rintro e w1 ⟨rfl, hr1, ht1⟩)
            | (go_at_call 160; clear tok2; refine (whole_any _ r t (i + 1) hr1).mono ?_; rintro e w2 ⟨he, hr2, ht2⟩; rw [H1.out] at he; subst he; rw [HJ.out] at hr2)
            | (go_at_call 165; clear tok3; refine (eat1_yes _ r t _ 32 hr2 (by decide) HS.out).mono ?_; rintro e w3 ⟨rfl, hr3, ht3⟩)
            | (go_at_call 160; refine (whole_any _ r t (j + 1) hr3).mono ?_; rintro e w4 ⟨he, hr4, ht4⟩; rw [H2.out] at he; subst he; rw [HK.out] at hr4)
            | (go_at_call 165; refine (eat1_no _ r t _ 41 hr4 (by decide) HE.out).mono ?_; rintro e w5 ⟨rfl, hr5, ht5⟩; obtain ⟨b0, b1, b2, b3, b4, b5, bf, bz⟩ := boxOf ((((ht1.trans ht2).trans ht3).trans ht4).trans ht5) hne))
          exact bodyPost_ret (v := .tuple #[.agg #[.int .i64 0, .int .i64 0, .int .i64 0, .string ⟨#[]⟩, .slice none 0 0, .slice none 0 0], .bool false]) (by simp [results, Tryz.results161, go_sem, b0, b1, b2, b3, b4, b5]) rfl
            (valR_flat h hr5 (((((ha.trans ht1).trans ht2).trans ht3).trans ht4).trans ht5) (by rw [HP2.out]; rfl) (fun y k' hy => by rw [HP2.out] at hy; cases hy) [.int .i64 0, .int .i64 0, .int .i64 0, .string ⟨#[]⟩, .slice none 0 0, .slice none 0 0])
    · have HP : Hid (pPoint t i = none) := Lib.hid (by unfold pPoint; rw [h1]; exact if_neg hs)
      have HS := Lib.hid hs
      clear h1 hs
      have tok : True := trivial
      go_enter Tryz.func161, Tryz.ntmps161
      go_wp2_with (first
        | (go_at_call 165; clear tok; refine (eat1_yes _ r t i 40 h0 (by decide) HI.out).mono ?_; rintro e w1 ⟨rfl, hr1, ht1⟩)
        | (go_at_call 160; refine (whole_any _ r t (i + 1) hr1).mono ?_; rintro e w2 ⟨he, hr2, ht2⟩; rw [H1.out] at he; subst he)
        | (go_at_call 165; refine (eat1_no _ r t _ 32 hr2 (by decide) HS.out).mono ?_; rintro e w3 ⟨rfl, hr3, ht3⟩; obtain ⟨b0, b1, b2, b3, b4, b5, bf, bz⟩ := boxOf ((ht1.trans ht2).trans ht3) hne))
      exact bodyPost_ret (v := .tuple #[.agg #[.int .i64 0, .int .i64 0, .int .i64 0, .string ⟨#[]⟩, .slice none 0 0, .slice none 0 0], .bool false]) (by simp [results, Tryz.results161, go_sem, b0, b1, b2, b3, b4, b5]) rfl
        (valR_flat h hr3 (((ha.trans ht1).trans ht2).trans ht3) (by rw [HP.out]; rfl) (fun y k' hy => by rw [HP.out] at hy; cases hy) [.int .i64 0, .int .i64 0, .int .i64 0, .string ⟨#[]⟩, .slice none 0 0, .slice none 0 0])
end Go.Proofs.YtllhimeffkefiaaGreatDoor
/- impl's reading of names. Condition: texts of at most 2^20 bytes. -/
set_option linter.unusedVariables false
namespace Go.Proofs.YtllhimeffkefiaaGreatDoor
open Go.RowKit Go.Sort

def nameEnd (t : ByteArray) (i : Nat) : Nat := run worB t i
def nameAt (t : ByteArray) (i : Nat) : ByteArray := t.extract i (nameEnd t i)
/-- the word at a place and whether it is a name -/
def NameR (r : Nat) (t : ByteArray) (i : Nat) (w : World) (e : Ending) (w' : World) : Prop :=
  e = .returned (.tuple #[.string (nameAt t i), .bool (nameB (nameAt t i))]) ∧ Rs w' r t (nameEnd t i) ∧ To r w w'

theorem isLetter_is (n : Int) (w : World) (b : Bool) (h : letB n = b) : Calls Tryz.prog 120 #[.int .u8 n] w (BoolR b w) := h ▸ isLetter_any n w
theorem isDigit_is (n : Int) (w : World) (b : Bool) (h : digB n = b) : Calls Tryz.prog 121 #[.int .u8 n] w (BoolR b w) := h ▸ isDigit_any n w

theorem isName_is (s : ByteArray) (w : World) (b : Bool) (h : nameB s = b) : Calls Tryz.prog 107 #[.string s] w (BoolR b w) := h ▸ isName_any s w
set_option maxHeartbeats 4000000 in
set_option maxRecDepth 100000 in
theorem name_any (w : World) (r : Nat) (t : ByteArray) (i : Nat) (h : Rs w r t i) : Calls Tryz.prog 178 #[.pointer (some ⟨r, 0, none⟩)] w (NameR r t i w) := by
  have c0 := h.c0
  have c1 := h.c1
  have HE0 : Hid (nameEnd t i = run worB t i) := Lib.hid rfl
  have hle := h.le
  have hsz := h.sz
  go_enter Tryz.func178, Tryz.ntmps178
  go_wp2
  go_loopw [] (fun wr => ∃ k : Nat, i ≤ k ∧ k ≤ t.size ∧ Hid (run worB t i = run worB t k) ∧ Rs wr r t k ∧ To r w wr) (fun wr => lefR r t wr)
  case atStart => exact ⟨i, Nat.le_refl _, hle, rfl, h, To.refl _ _⟩
  case round =>
    obtain ⟨k, hk1, hk, HR, hr, hw⟩ := hrel
    clear c0 c1
    have k0 := hr.c0
    have k1 := hr.c1
    have k2 := hr.f1
    have hik : (i : Int) ≤ k := by omega
    have hkt : (k : Int) ≤ t.size := by omega
    by_cases hlt : k < t.size
    · obtain ⟨x, hx⟩ : ∃ x : Int, byI t k = x := ⟨_, rfl⟩
      have hx' : (t[k].toNat : Int) = x := by rw [← hx, byI_eq hlt]
      have g1 : decide ((k : Int) < t.size) = true := decide_eq_true (by omega)
      by_cases hw1 : worB x = true
      · have HG := Lib.hid (run_go (q := worB) hlt (by rw [hx]; exact hw1))
        clear hx
        rcases (show letB x = true ∨ (letB x = false ∧ digB x = true) ∨ (letB x = false ∧ digB x = false ∧ x = 95) by
          cases l : letB x <;> cases d : digB x <;> simp_all [worB]) with hq1 | ⟨hq1, hq2⟩ | ⟨hq1, hq2, hq3⟩
        rotate_left 2
        · subst hq3
          go_wp2_with fail
          go_big_quiet (first
            | (go_at_call 120; exact Calls.quiet_of_same ((isLetter_is _ _ _ hq1).mono fun e w' h => ⟨h.1, h.2.symm⟩))
            | (go_at_call 121; exact Calls.quiet_of_same ((isDigit_is _ _ _ hq2).mono fun e w' h => ⟨h.1, h.2.symm⟩)))
          go_wp2_with fail
          have hr2 := (hr.below (drewN_below wr nq)).set (k + 1) hlt
          push_cast at hr2
          go_roundw
          case rel => exact ⟨k + 1, by omega, by omega, HR.out.trans HG.out, hr2, (hw.trans (To.of (drewN_below wr nq))).trans (To.set r _ 1 _)⟩
          case measure => rw [hr2.lef, hr.lef]; omega
        all_goals
          clear hw1
          go_wp2_with fail
          go_big_quiet (first
            | (go_at_call 120; exact Calls.quiet_of_same ((isLetter_is _ _ _ hq1).mono fun e w' h => ⟨h.1, h.2.symm⟩))
            | (go_at_call 121; exact Calls.quiet_of_same ((isDigit_is _ _ _ hq2).mono fun e w' h => ⟨h.1, h.2.symm⟩)))
          go_wp2_with fail
          have hr2 := (hr.below (drewN_below wr nq)).set (k + 1) hlt
          push_cast at hr2
          go_roundw
          case rel => exact ⟨k + 1, by omega, by omega, HR.out.trans HG.out, hr2, (hw.trans (To.of (drewN_below wr nq))).trans (To.set r _ 1 _)⟩
          case measure => rw [hr2.lef, hr.lef]; omega
      · have HG := Lib.hid (run_stop (q := worB) (t := t) (i := k) (by rw [hx]; exact fun h => hw1 h.2))
        clear hx
        have hq1 : letB x = false := by
          cases l : letB x with
          | false => rfl
          | true => exact absurd (worB_let l) hw1
        have hq2 : digB x = false := by
          cases l : digB x with
          | false => rfl
          | true => exact absurd (worB_dig l) hw1
        have hq3 : (x == 95) = false := by
          cases l : x == 95 with
          | false => rfl
          | true => exact absurd (by unfold worB; simp at l; simp [l]) hw1
        clear hw1
        have HK : Hid (nameEnd t i = k) := Lib.hid (HE0.out.trans (HR.out.trans HG.out))
        go_wp2_with fail
        go_big_quiet (first
          | (go_at_call 120; exact Calls.quiet_of_same ((isLetter_is _ _ _ hq1).mono fun e w' h => ⟨h.1, h.2.symm⟩))
          | (go_at_call 121; exact Calls.quiet_of_same ((isDigit_is _ _ _ hq2).mono fun e w' h => ⟨h.1, h.2.symm⟩)))
        have hr5 := hr.below (drewN_below wr nq)
        have hw5 := hw.trans (To.of (drewN_below wr nq))
        clear k0 k1 k2 hr hw
        generalize wr.drewN nq = w5 at hr5 hw5 ⊢
        have k0 := hr5.c0
        have k1 := hr5.c1
        clear nq
        go_wp2_with fail
        obtain ⟨b, hb⟩ : ∃ b, nameB (t.extract i k) = b := ⟨_, rfl⟩
        go_big_quiet ((go_at_call 107; exact Calls.quiet_of_same ((isName_is _ _ _ hb).mono fun e w' h => ⟨h.1, h.2.symm⟩)))
        go_wp2_with fail
        go_ret2
        exact ⟨by unfold nameAt; rw [HK.out, hb]; rfl, by rw [HK.out]; exact hr5.below (drewN_below w5 nq), hw5.trans (To.of (drewN_below w5 nq))⟩
    · have HG := Lib.hid (run_stop (q := worB) (t := t) (i := k) (fun h => hlt h.1))
      have g1 : decide ((k : Int) < t.size) = false := decide_eq_false (by omega)
      have HK : Hid (nameEnd t i = k) := Lib.hid (HE0.out.trans (HR.out.trans HG.out))
      go_wp2_with fail
      go_big_quiet (first
        | (go_at_call 120; exact Calls.quiet_of_same ((isLetter_is _ _ _ hq1).mono fun e w' h => ⟨h.1, h.2.symm⟩))
        | (go_at_call 121; exact Calls.quiet_of_same ((isDigit_is _ _ _ hq2).mono fun e w' h => ⟨h.1, h.2.symm⟩)))
      have hr5 := hr.below (drewN_below wr nq)
      have hw5 := hw.trans (To.of (drewN_below wr nq))
      clear k0 k1 k2 hr hw
      generalize wr.drewN nq = w5 at hr5 hw5 ⊢
      have k0 := hr5.c0
      have k1 := hr5.c1
      clear nq
      go_wp2_with fail
      obtain ⟨b, hb⟩ : ∃ b, nameB (t.extract i k) = b := ⟨_, rfl⟩
      go_big_quiet ((go_at_call 107; exact Calls.quiet_of_same ((isName_is _ _ _ hb).mono fun e w' h => ⟨h.1, h.2.symm⟩)))
      go_wp2_with fail
      go_ret2
      exact ⟨by unfold nameAt; rw [HK.out, hb]; rfl, by rw [HK.out]; exact hr5.below (drewN_below w5 nq), hw5.trans (To.of (drewN_below w5 nq))⟩
end Go.Proofs.YtllhimeffkefiaaGreatDoor
