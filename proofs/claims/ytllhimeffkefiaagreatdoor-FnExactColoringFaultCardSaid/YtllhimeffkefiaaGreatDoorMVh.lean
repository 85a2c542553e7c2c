/- Texts of one proof, joined in their order: each bears its own word of what it holds and on what condition. -/
import Derived.Test.YtllhimeffkefiaaGreatDoorMC
import Derived.Deep.AppendLies
import Derived.Deep.RegionHeldLaw
set_option linter.unusedVariables false
set_option linter.unusedSimpArgs false
/- impl's reading of texts in quotes. Condition: texts of at most 2^20 bytes. -/
set_option linter.unusedVariables false
namespace Go.Proofs.YtllhimeffkefiaaGreatDoor
open Go.RowKit Go.Sort

/-! ### rows of the call's own -/
theorem own_to {r base : Nat} {e : TypeId} {size : Nat} {v : Value} {n : Nat} {xs : List Value} {w w' : World} (h : w.ownsRow base e size v n xs) (ht : To r w w') (hr : r < base) : w'.ownsRow base e size v n xs := by
  refine ⟨h.1, ?_⟩
  rcases h.2 with hn | ⟨g, cap, cur, rfl, hb, hgg, rest⟩
  · exact .inl hn
  · exact .inr ⟨g, cap, cur, rfl, hb, (ht.block g (Array.getElem?_eq_some_iff.1 hgg).1 (by omega)).trans hgg, rest⟩
theorem To.grown {r : Nat} {w W w1 : World} {row : Option Nat} (h : To r w W) (hg : W.grownBy w1 row) (hrow : ∀ k, row = some k → w.heap.size ≤ k) : To r w w1 :=
  ⟨hg.os.trans h.os, hg.tape.trans h.tape, hg.output.trans h.output, Nat.le_trans h.size hg.size, fun b hb hne => (hg.block b (Nat.lt_of_lt_of_le hb h.size) (fun e => by have := hrow b e.symm; omega)).trans (h.block b hb hne)⟩
theorem Rs.grown {w : World} {r : Nat} {t : ByteArray} {i j : Nat} (h0 : Rs w r t i) {W w1 : World} (h : Rs W r t j) {row : Option Nat} (hg : W.grownBy w1 row) (hrow : ∀ k, row = some k → w.heap.size ≤ k) : Rs w1 r t j := by
  have hr : W.heap[r]? = w1.heap[r]? := (hg.block r h.lt (fun e => by have := hrow r e.symm; have := h0.lt; omega)).symm
  refine ⟨?_, ?_, ?_, h.env.kept hg.size (fun b hb => hg.block b (h.env.siz b hb) (fun e => ?_)), h.ng, h.le, h.sz⟩
  · exact (World.cell?_of_block (a := ⟨r, 0, none⟩) hr.symm).trans h.c0
  · exact (World.cell?_of_block (a := ⟨r, 1, none⟩) hr.symm).trans h.c1
  · exact (World.frozen?_of_block (a := ⟨r, 1, none⟩) hr.symm).trans h.f1
  · have := hrow b e.symm
    have := h0.env.siz b hb
    omega
def byteV (b : UInt8) : Value := .int .u8 (b.toNat : Int)
theorem bytes_str {w : World} {base : Nat} {v : Value} {acc : List UInt8} (h : w.ownsRow base 5 1 v acc.length (acc.map byteV)) : (convert 155 9 v).run Tryz.prog w = .ok (.string ⟨acc.toArray⟩) w := by
  rcases h.2 with ⟨rfl, hn⟩ | ⟨g, cap, cur, rfl, hb, hgg, hc, hm, hs, ht⟩
  · have : acc = [] := List.length_eq_zero_iff.1 hn
    subst this
    rw [run_convert_bytes_string w 155 9 5 none 0 0 Tryz.underlying155 Tryz.underlying5 Tryz.underlying9]; rfl
  · refine run_convert_bytes_back w 155 9 5 ⟨g, 0, none⟩ cap acc Tryz.underlying155 Tryz.underlying5 Tryz.underlying9 (fun j hj => ?_)
    have e : (cur.toList.take (acc.length * 1))[j]? = some (byteV acc[j]) := by rw [ht]; simp [hj]
    rw [List.getElem?_take, if_pos (by omega)] at e
    exact World.news_of_block hgg j _ e

/-! ### the text in quotes -/
/-- i: behind the opening quote -/
def quoTo (t : ByteArray) : Nat → Nat → List UInt8 → Option (ByteArray × Nat)
  | 0, i, acc => none
  | f + 1, i, acc =>
    if h : i < t.size then
      if byI t i = 34 then some (⟨acc.toArray⟩, i + 1)
      else if byI t i = 92 then
        (if h2 : i + 1 < t.size then
          (if byI t (i + 1) = 34 ∨ byI t (i + 1) = 92 then quoTo t f (i + 2) (acc ++ [t[i + 1]])
          else if byI t (i + 1) = 110 then quoTo t f (i + 2) (acc ++ [10]) else none) else none)
      else if byI t i < 32 then none
      else quoTo t f (i + 1) (acc ++ [t[i]])
    else none
theorem quoTo_fuel (t : ByteArray) : ∀ (f g i : Nat) (acc : List UInt8), t.size < i + f → t.size < i + g → quoTo t f i acc = quoTo t g i acc
  | 0, g, i, acc, h, h' => by
    cases g with
    | zero => rfl
    | succ g => rw [quoTo, quoTo, dif_neg (by omega)]
  | f + 1, 0, i, acc, h, h' => by rw [quoTo, quoTo, dif_neg (by omega)]
  | f + 1, g + 1, i, acc, h, h' => by
    rw [quoTo, quoTo]
    split
    · rw [quoTo_fuel t f g (i + 1) (acc ++ [t[i]]) (by omega) (by omega)]
      split
      · rfl
      · split
        · split
          · rw [quoTo_fuel t f g (i + 2) (acc ++ [t[i + 1]]) (by omega) (by omega), quoTo_fuel t f g (i + 2) (acc ++ [10]) (by omega) (by omega)]
          · rfl
        · rfl
    · rfl
def quo (t : ByteArray) (i : Nat) (acc : List UInt8) : Option (ByteArray × Nat) := quoTo t (t.size + 1) i acc
theorem quo_eq (t : ByteArray) (i : Nat) (acc : List UInt8) : quo t i acc =
    if h : i < t.size then
      if byI t i = 34 then some (⟨acc.toArray⟩, i + 1)
      else if byI t i = 92 then
        (if h2 : i + 1 < t.size then
          (if byI t (i + 1) = 34 ∨ byI t (i + 1) = 92 then quo t (i + 2) (acc ++ [t[i + 1]])
          else if byI t (i + 1) = 110 then quo t (i + 2) (acc ++ [10]) else none) else none)
      else if byI t i < 32 then none
      else quo t (i + 1) (acc ++ [t[i]])
    else none := by
  unfold quo
  rw [quoTo]
  split
  · rw [quoTo_fuel t t.size (t.size + 1) (i + 1) (acc ++ [t[i]]) (by omega) (by omega)]
    split
    · rfl
    · split
      · split
        · rw [quoTo_fuel t t.size (t.size + 1) (i + 2) (acc ++ [t[i + 1]]) (by omega) (by omega), quoTo_fuel t t.size (t.size + 1) (i + 2) (acc ++ [10]) (by omega) (by omega)]
        · rfl
      · rfl
  · rfl
/-- i: at the opening quote -/
def pQuo (t : ByteArray) (i : Nat) : Option (ByteArray × Nat) := quo t (i + 1) []
/-- a text and whether it is one -/
def StrOk (r : Nat) (t : ByteArray) (p : Option (ByteArray × Nat)) (w : World) (e : Ending) (w' : World) : Prop :=
  ∃ s j, e = .returned (.tuple #[.string s, .bool p.isSome]) ∧ Rs w' r t j ∧ To r w w' ∧ ∀ y k, p = some (y, k) → s = y ∧ j = k

theorem new_cells {W : World} {H : Nat} (hH : W.heap.size = H) (x : Value) (T : Nat) : ∀ j u, [x][j]? = some u → (W.alloc (.cells #[x] T)).cell? ((⟨H, 0, none⟩ : Addr).add j) = some u := by
  subst hH
  exact cell_one_new W x T
theorem to_drew (r : Nat) (w : World) : To r w w.drew := ⟨rfl, rfl, rfl, Nat.le_refl _, fun _ _ _ => rfl⟩
theorem below_drew (w : World) : Below w.heap.size w w.drew := ⟨rfl, rfl, rfl, Nat.le_refl _, fun _ _ => rfl⟩
theorem byte_one (x : Int) : ∀ u ∈ [Value.int .u8 x], u.oneCell' = true := by
  intro u hu
  simp at hu
  subst hu
  rfl

set_option maxHeartbeats 4000000 in
set_option maxRecDepth 100000 in
theorem quoted_any (w : World) (r : Nat) (t : ByteArray) (i : Nat) (h : Rs w r t i) (hi : byI t i = 34) : Calls Tryz.prog 158 #[.pointer (some ⟨r, 0, none⟩)] w (StrOk r t (pQuo t i) w) := by
  have hlt := h.lt
  have HI := Lib.hid hi
  have HP : Hid (pQuo t i = quo t (i + 1) []) := Lib.hid rfl
  have hsz := h.sz
  obtain ⟨i0, hi0, hz0, hz1, hz2⟩ := info_parts (show (Tryz.prog.info? 5).map (fun i => (i.zero, i.size, i.bytes)) = some (some (.int .u8 0), 1, 1) by kernel_rfl)
  clear hi
  go_enter Tryz.func158, Tryz.ntmps158
  go_wp2_with (go_at_call 165; refine (eat1_yes _ r t i 34 h (by decide) HI.out).mono ?_; rintro e w1 ⟨rfl, hr1, ht1⟩)
  go_loopw [4] (fun v wr => ∃ (k : Nat) (acc : List UInt8), acc.length ≤ k ∧ k ≤ t.size ∧ Hid (quo t (i + 1) [] = quo t k acc) ∧ Rs wr r t k ∧ To r w wr ∧ wr.ownsRow w.heap.size 5 1 v acc.length (acc.map byteV)) (fun v wr => lefR r t wr)
  case atStart => exact ⟨i + 1, [], Nat.zero_le _, hr1.le, rfl, hr1, ht1, World.ownsRow_nil _ _ _ _⟩
  case round =>
    obtain ⟨k, acc, hk1, hk, HR, hr, hw, hown⟩ := hrel
    have k0 := hr.c0
    have k1 := hr.c1
    have k2 := hr.f1
    have hkt : (k : Int) ≤ t.size := by omega
    clear hr1 ht1
    by_cases hlt2 : k < t.size
    · have hlt3 : (k : Int) + 1 ≤ t.size := by omega
      have g1 : decide ((k : Int) < t.size) = true := decide_eq_true (by omega)
      obtain ⟨b, hb⟩ : ∃ b : UInt8, t[k] = b := ⟨_, rfl⟩
      have hbx : byI t k = (b.toNat : Int) := by rw [byI_eq hlt2, hb]
      have HE := Lib.hid (quo_eq t k acc)
      have HB := Lib.hid hb
      obtain ⟨x, hx⟩ : ∃ x : Int, (b.toNat : Int) = x := ⟨_, rfl⟩
      have hx' : (t[k].toNat : Int) = x := by rw [hb, hx]
      have hxb : byteV b = .int .u8 x := by rw [← hx]; rfl
      have HXI : Hid (byI t k = x) := Lib.hid (hbx.trans hx)
      clear hbx hb hx
      by_cases h34 : x = 34
      · have HF : Hid (quo t k acc = some (⟨acc.toArray⟩, k + 1)) := Lib.hid (by rw [HE.out, dif_pos hlt2, HXI.out, if_pos h34])
        subst h34
        clear HE HXI
        go_wp2_with fail
        go_big_quiet (fail)
        revert nq
        intro n1
        go_wp2_with fail
        go_big_quiet (fail)
        have hT : To r wr ((wr.drewN (n1 + nq)).setCell ⟨r, 1, none⟩ (.int .i64 ((k + 1 : Nat)))) := (To.of (drewN_below wr (n1 + nq))).trans (To.set r _ 1 _)
        have hr2 := (hr.below (drewN_below wr (n1 + nq))).set (k + 1) hlt2
        have hw2 := hw.trans hT
        have hown2 := own_to hown hT hlt
        push_cast at hr2 hw2 hown2
        have hzw : w.heap.size ≤ wr.heap.size := hw.size
        clear hT hown hr hw
        have hcv := bytes_str hown2
        go_wp2_with fail
        go_ret2
        exact ⟨_, _, by rw [HP.out, HR.out, HF.out]; rfl, hr2, hw2, fun y k' hy => by rw [HP.out, HR.out, HF.out] at hy; cases hy; exact ⟨rfl, rfl⟩⟩
      · have h34' : (x == 34) = false := by simpa using h34
        by_cases h92 : x = 92
        · have h92' : (x == 92) = true := by simpa using h92
          by_cases hlt5 : k + 1 < t.size
          · have hlt6 : (k : Int) + 1 + 1 ≤ t.size := by omega
            have HE2 : Hid (quo t k acc = if byI t (k + 1) = 34 ∨ byI t (k + 1) = 92 then quo t (k + 2) (acc ++ [t[k + 1]]) else if byI t (k + 1) = 110 then quo t (k + 2) (acc ++ [10]) else none) := Lib.hid (by rw [HE.out, dif_pos hlt2, HXI.out, if_neg h34, if_pos h92, dif_pos hlt5])
            clear HE HXI h34 h92
            obtain ⟨c, hc⟩ : ∃ c : UInt8, t[k + 1] = c := ⟨_, rfl⟩
            rw [hc] at HE2
            have hcy : byI t (k + 1) = (c.toNat : Int) := by rw [byI_eq hlt5, hc]
            obtain ⟨y, hy⟩ : ∃ y : Int, (c.toNat : Int) = y := ⟨_, rfl⟩
            have hy' : (t[k + 1].toNat : Int) = y := by rw [hc, hy]
            have hyc : byteV c = .int .u8 y := by rw [← hy]; rfl
            have HYI : Hid (byI t (k + 1) = y) := Lib.hid (hcy.trans hy)
            clear hcy hc hy
            rcases (show y = 34 ∨ (y ≠ 34 ∧ y = 92) ∨ (y ≠ 34 ∧ y ≠ 92 ∧ y = 110) ∨ (y ≠ 34 ∧ y ≠ 92 ∧ y ≠ 110) by omega) with y1 | ⟨y1, y2⟩ | ⟨y1, y2, y3⟩ | ⟨y1, y2, y3⟩
            · have HF : Hid (quo t k acc = quo t (k + 2) (acc ++ [c])) := Lib.hid (by rw [HE2.out, HYI.out]; exact if_pos (.inl y1))
              have y1' : (y == 34) = true := by simpa using y1
              clear HE2 y1
              go_wp2_with fail
              go_big_quiet (fail)
              revert nq
              intro n1
              go_wp2_with fail
              go_big_quiet (fail)
              have hT : To r wr ((wr.drewN (n1 + nq)).setCell ⟨r, 1, none⟩ (.int .i64 ((k + 1 : Nat)))) := (To.of (drewN_below wr (n1 + nq))).trans (To.set r _ 1 _)
              have hr2 := (hr.below (drewN_below wr (n1 + nq))).set (k + 1) hlt2
              have hw2 := hw.trans hT
              have hown2 := own_to hown hT hlt
              push_cast at hr2 hw2 hown2
              have hzw : w.heap.size ≤ wr.heap.size := hw.size
              clear hT hown hr hw
              go_wp2_with (go_at_call 157; refine (peek_any _ r t (k + 1) hr2).mono ?_; rintro e w4 ⟨he, hb4⟩; rw [HYI.out] at he; subst he; have hr4 := hr2.below hb4; have hw4 := hw2.trans (To.of hb4); have hown5 := own_to hown2 (To.of (r := r) hb4) hlt; have hz4 : w.heap.size ≤ w4.heap.size := hw4.size; have q0 := hr4.c0; have q1 := hr4.c1; have q2 := hr4.f1; push_cast at q1)
              go_region_held_law (fun w' : World => w'.cell? ⟨r, 0, none⟩ = some (.string t) ∧ w'.cell? ⟨r, 1, none⟩ = some (.int .i64 ((k : Int) + 1))) (first | go_keep | exact ⟨p0, p1⟩) ((refine step_append_lies _ (by rfl) (.tmp 52) (.tmp 62) 155 (by rfl) w.heap.size 5 i0 (.int .u8 0) 1 1 Tryz.underlying155 hi0 hz0 hz1 hz2 rfl (by decide) u4 acc.length (acc.map byteV) (by rfl) ((own_to hown5 (to_drew r w4) hlt).alloc _) ⟨w4.heap.size, 0, none⟩ 1 1 [.int .u8 y] (by rfl) rfl (new_cells (by rfl) _ _) (byte_one _) (by decide) (by unfold maxLen; omega) (by omega) (by simp; omega) _ rfl ?_; intro g cap w5 hown6 hgrow6 hat6 hlt7; have hgrow6 : World.grownBy _ w5 u4.ownBlock := hgrow6; have hr5 := Rs.grown h ((hr4.below (below_drew w4)).below ((Below.refl _ _).alloc (Nat.le_refl _) (.cells #[.int .u8 y] 5))) hgrow6 (fun k hk => (hown5.lt k hk).1); have p0 := hr5.c0; have p1 := hr5.c1; have p2 := hr5.f1; push_cast at p1))
              go_wp2_with fail
              have hw5 := ((hw4.trans (to_drew r w4)).trans (To.alloc r _ (.cells #[.int .u8 y] 5))).grown hgrow6 (fun k hk => (hown5.lt k hk).1)
              have hr6 := hr5.set (k + 1 + 1) hlt5
              have hT6 := To.set r w5 1 (.int .i64 ((k + 1 + 1 : Nat)))
              have hown7 : w5.ownsRow w.heap.size 5 1 (.slice (some ⟨g, 0, none⟩) (acc.length + 1) cap) (acc ++ [c]).length ((acc ++ [c]).map byteV) := by simpa [hyc] using hown6
              have hown8 := own_to hown7 hT6 hlt
              have hw6 := hw5.trans hT6
              push_cast at hr6 hw6 hown8
              have hm1 := hr6.lef
              have hm2 : lefR r t wr = t.size - k := by unfold lefR; rw [k1]; rfl
              go_roundw
              case rel => exact ⟨k + 1 + 1, acc ++ [c], by simp; omega, hlt5, HR.out.trans HF.out, hr6, hw6, hown8⟩
              case measure => omega
            · have HF : Hid (quo t k acc = quo t (k + 2) (acc ++ [c])) := Lib.hid (by rw [HE2.out, HYI.out]; exact if_pos (.inr y2))
              have y1' : (y == 34) = false := by simpa using y1
              have y2' : (y == 92) = true := by simpa using y2
              clear HE2 y1 y2
              go_wp2_with fail
              go_big_quiet (fail)
              revert nq
              intro n1
              go_wp2_with fail
              go_big_quiet (fail)
              have hT : To r wr ((wr.drewN (n1 + nq)).setCell ⟨r, 1, none⟩ (.int .i64 ((k + 1 : Nat)))) := (To.of (drewN_below wr (n1 + nq))).trans (To.set r _ 1 _)
              have hr2 := (hr.below (drewN_below wr (n1 + nq))).set (k + 1) hlt2
              have hw2 := hw.trans hT
              have hown2 := own_to hown hT hlt
              push_cast at hr2 hw2 hown2
              have hzw : w.heap.size ≤ wr.heap.size := hw.size
              clear hT hown hr hw
              go_wp2_with (go_at_call 157; refine (peek_any _ r t (k + 1) hr2).mono ?_; rintro e w4 ⟨he, hb4⟩; rw [HYI.out] at he; subst he; have hr4 := hr2.below hb4; have hw4 := hw2.trans (To.of hb4); have hown5 := own_to hown2 (To.of (r := r) hb4) hlt; have hz4 : w.heap.size ≤ w4.heap.size := hw4.size; have q0 := hr4.c0; have q1 := hr4.c1; have q2 := hr4.f1; push_cast at q1)
              go_region_held_law (fun w' : World => w'.cell? ⟨r, 0, none⟩ = some (.string t) ∧ w'.cell? ⟨r, 1, none⟩ = some (.int .i64 ((k : Int) + 1))) (first | go_keep | exact ⟨p0, p1⟩) ((refine step_append_lies _ (by rfl) (.tmp 52) (.tmp 62) 155 (by rfl) w.heap.size 5 i0 (.int .u8 0) 1 1 Tryz.underlying155 hi0 hz0 hz1 hz2 rfl (by decide) u4 acc.length (acc.map byteV) (by rfl) ((own_to hown5 (to_drew r w4) hlt).alloc _) ⟨w4.heap.size, 0, none⟩ 1 1 [.int .u8 y] (by rfl) rfl (new_cells (by rfl) _ _) (byte_one _) (by decide) (by unfold maxLen; omega) (by omega) (by simp; omega) _ rfl ?_; intro g cap w5 hown6 hgrow6 hat6 hlt7; have hgrow6 : World.grownBy _ w5 u4.ownBlock := hgrow6; have hr5 := Rs.grown h ((hr4.below (below_drew w4)).below ((Below.refl _ _).alloc (Nat.le_refl _) (.cells #[.int .u8 y] 5))) hgrow6 (fun k hk => (hown5.lt k hk).1); have p0 := hr5.c0; have p1 := hr5.c1; have p2 := hr5.f1; push_cast at p1))
              go_wp2_with fail
              have hw5 := ((hw4.trans (to_drew r w4)).trans (To.alloc r _ (.cells #[.int .u8 y] 5))).grown hgrow6 (fun k hk => (hown5.lt k hk).1)
              have hr6 := hr5.set (k + 1 + 1) hlt5
              have hT6 := To.set r w5 1 (.int .i64 ((k + 1 + 1 : Nat)))
              have hown7 : w5.ownsRow w.heap.size 5 1 (.slice (some ⟨g, 0, none⟩) (acc.length + 1) cap) (acc ++ [c]).length ((acc ++ [c]).map byteV) := by simpa [hyc] using hown6
              have hown8 := own_to hown7 hT6 hlt
              have hw6 := hw5.trans hT6
              push_cast at hr6 hw6 hown8
              have hm1 := hr6.lef
              have hm2 : lefR r t wr = t.size - k := by unfold lefR; rw [k1]; rfl
              go_roundw
              case rel => exact ⟨k + 1 + 1, acc ++ [c], by simp; omega, hlt5, HR.out.trans HF.out, hr6, hw6, hown8⟩
              case measure => omega
            · have HF : Hid (quo t k acc = quo t (k + 2) (acc ++ [10])) := Lib.hid (by rw [HE2.out, HYI.out]; rw [if_neg (by omega), if_pos y3])
              have y1' : (y == 34) = false := by simpa using y1
              have y2' : (y == 92) = false := by simpa using y2
              have y3' : (y == 110) = true := by simpa using y3
              clear HE2 y1 y2 y3
              go_wp2_with fail
              go_big_quiet (fail)
              revert nq
              intro n1
              go_wp2_with fail
              go_big_quiet (fail)
              have hT : To r wr ((wr.drewN (n1 + nq)).setCell ⟨r, 1, none⟩ (.int .i64 ((k + 1 : Nat)))) := (To.of (drewN_below wr (n1 + nq))).trans (To.set r _ 1 _)
              have hr2 := (hr.below (drewN_below wr (n1 + nq))).set (k + 1) hlt2
              have hw2 := hw.trans hT
              have hown2 := own_to hown hT hlt
              push_cast at hr2 hw2 hown2
              have hzw : w.heap.size ≤ wr.heap.size := hw.size
              clear hT hown hr hw
              go_wp2_with (first
                | (go_at_call 157; refine (peek_any _ r t (k + 1) hr2).mono ?_; rintro e w4 ⟨he, hb4⟩; rw [HYI.out] at he; subst he; have hr4 := hr2.below hb4; have hw4 := hw2.trans (To.of hb4); have hown5 := own_to hown2 (To.of (r := r) hb4) hlt; have hz4 : w.heap.size ≤ w4.heap.size := hw4.size; have q0 := hr4.c0; have q1 := hr4.c1; have q2 := hr4.f1; push_cast at q1)
                | (at_builtin; refine wpList_append_lies _ rfl (.tmp 66) (.tmp 67) 155 rfl w.heap.size 5 i0 (.int .u8 0) 1 1 Tryz.underlying155 hi0 hz0 hz1 hz2 rfl (by decide) u4 acc.length (acc.map byteV) rfl (hown5.alloc _) ⟨w4.heap.size, 0, none⟩ 1 1 [.int .u8 10] rfl rfl (new_cells (by rfl) _ _) (byte_one _) (by decide) (by unfold maxLen; omega) (by omega) (by simp; omega) _ rfl ?_; intro g cap w5 hown6 hgrow6 hat6 hlt7; have hgrow6 : World.grownBy _ w5 u4.ownBlock := hgrow6; have hr5 := Rs.grown h (hr4.below ((Below.refl _ _).alloc (Nat.le_refl _) (.cells #[.int .u8 10] 5))) hgrow6 (fun k hk => (hown5.lt k hk).1); have p0 := hr5.c0; have p1 := hr5.c1; have p2 := hr5.f1; push_cast at p1))
              have hw5 := (hw4.trans (To.alloc r _ (.cells #[.int .u8 10] 5))).grown hgrow6 (fun k hk => (hown5.lt k hk).1)
              have hr6 := hr5.set (k + 1 + 1) hlt5
              have hT6 := To.set r w5 1 (.int .i64 ((k + 1 + 1 : Nat)))
              have hown7 : w5.ownsRow w.heap.size 5 1 (.slice (some ⟨g, 0, none⟩) (acc.length + 1) cap) (acc ++ [10]).length ((acc ++ [10]).map byteV) := by simpa [byteV] using hown6
              have hown8 := own_to hown7 hT6 hlt
              have hw6 := hw5.trans hT6
              push_cast at hr6 hw6 hown8
              have hm1 := hr6.lef
              have hm2 : lefR r t wr = t.size - k := by unfold lefR; rw [k1]; rfl
              go_roundw
              case rel => exact ⟨k + 1 + 1, acc ++ [10], by simp; omega, hlt5, HR.out.trans HF.out, hr6, hw6, hown8⟩
              case measure => omega
            · have HF : Hid (quo t k acc = none) := Lib.hid (by rw [HE2.out, HYI.out]; rw [if_neg (by omega), if_neg y3])
              have y1' : (y == 34) = false := by simpa using y1
              have y2' : (y == 92) = false := by simpa using y2
              have y3' : (y == 110) = false := by simpa using y3
              clear HE2 y1 y2 y3
              go_wp2_with fail
              go_big_quiet (fail)
              revert nq
              intro n1
              go_wp2_with fail
              go_big_quiet (fail)
              have hT : To r wr ((wr.drewN (n1 + nq)).setCell ⟨r, 1, none⟩ (.int .i64 ((k + 1 : Nat)))) := (To.of (drewN_below wr (n1 + nq))).trans (To.set r _ 1 _)
              have hr2 := (hr.below (drewN_below wr (n1 + nq))).set (k + 1) hlt2
              have hw2 := hw.trans hT
              have hown2 := own_to hown hT hlt
              push_cast at hr2 hw2 hown2
              have hzw : w.heap.size ≤ wr.heap.size := hw.size
              clear hT hown hr hw
              go_wp2_with (go_at_call 157; refine (peek_any _ r t (k + 1) hr2).mono ?_; rintro e w4 ⟨he, hb4⟩; rw [HYI.out] at he; subst he; have hr4 := hr2.below hb4; have hw4 := hw2.trans (To.of hb4); have hown5 := own_to hown2 (To.of (r := r) hb4) hlt; have hz4 : w.heap.size ≤ w4.heap.size := hw4.size; have q0 := hr4.c0; have q1 := hr4.c1; have q2 := hr4.f1; push_cast at q1)
              go_ret2
              exact ⟨_, _, by rw [HP.out, HR.out, HF.out]; rfl, hr4, hw4, fun y k' hy => by rw [HP.out, HR.out, HF.out] at hy; cases hy⟩
          · have HF : Hid (quo t k acc = none) := Lib.hid (by rw [HE.out, dif_pos hlt2, HXI.out, if_neg h34, if_pos h92, dif_neg hlt5])
            have HYI : Hid (byI t (k + 1) = 0) := Lib.hid (by unfold byI; rw [dif_neg hlt5])
            clear HE HXI h34 h92
            go_wp2_with fail
            go_big_quiet (fail)
            revert nq
            intro n1
            go_wp2_with fail
            go_big_quiet (fail)
            have hT : To r wr ((wr.drewN (n1 + nq)).setCell ⟨r, 1, none⟩ (.int .i64 ((k + 1 : Nat)))) := (To.of (drewN_below wr (n1 + nq))).trans (To.set r _ 1 _)
            have hr2 := (hr.below (drewN_below wr (n1 + nq))).set (k + 1) hlt2
            have hw2 := hw.trans hT
            have hown2 := own_to hown hT hlt
            push_cast at hr2 hw2 hown2
            have hzw : w.heap.size ≤ wr.heap.size := hw.size
            clear hT hown hr hw
            go_wp2_with (go_at_call 157; refine (peek_any _ r t (k + 1) hr2).mono ?_; rintro e w4 ⟨he, hb4⟩; rw [HYI.out] at he; subst he; have hr4 := hr2.below hb4; have hw4 := hw2.trans (To.of hb4); have hown5 := own_to hown2 (To.of (r := r) hb4) hlt; have hz4 : w.heap.size ≤ w4.heap.size := hw4.size; have q0 := hr4.c0; have q1 := hr4.c1; have q2 := hr4.f1; push_cast at q1)
            go_ret2
            exact ⟨_, _, by rw [HP.out, HR.out, HF.out]; rfl, hr4, hw4, fun y k' hy => by rw [HP.out, HR.out, HF.out] at hy; cases hy⟩
        · have h92' : (x == 92) = false := by simpa using h92
          by_cases h32 : x < 32
          · have HF : Hid (quo t k acc = none) := Lib.hid (by rw [HE.out, dif_pos hlt2, HXI.out, if_neg h34, if_neg h92, if_pos h32])
            clear HE HXI h34 h92
            go_wp2_with fail
            go_big_quiet (fail)
            revert nq
            intro n1
            go_wp2_with fail
            go_big_quiet (fail)
            have hT : To r wr ((wr.drewN (n1 + nq)).setCell ⟨r, 1, none⟩ (.int .i64 ((k + 1 : Nat)))) := (To.of (drewN_below wr (n1 + nq))).trans (To.set r _ 1 _)
            have hr2 := (hr.below (drewN_below wr (n1 + nq))).set (k + 1) hlt2
            have hw2 := hw.trans hT
            have hown2 := own_to hown hT hlt
            push_cast at hr2 hw2 hown2
            have hzw : w.heap.size ≤ wr.heap.size := hw.size
            clear hT hown hr hw
            go_wp2_with fail
            go_ret2
            exact ⟨_, _, by rw [HP.out, HR.out, HF.out]; rfl, hr2, hw2, fun y k' hy => by rw [HP.out, HR.out, HF.out] at hy; cases hy⟩
          · have HF : Hid (quo t k acc = quo t (k + 1) (acc ++ [b])) := Lib.hid (by rw [HE.out, dif_pos hlt2, HXI.out, if_neg h34, if_neg h92, if_neg h32, HB.out])
            clear HE HXI h34 h92
            go_wp2_with fail
            go_big_quiet (fail)
            revert nq
            intro n1
            go_wp2_with fail
            go_big_quiet (fail)
            have hT : To r wr ((wr.drewN (n1 + nq)).setCell ⟨r, 1, none⟩ (.int .i64 ((k + 1 : Nat)))) := (To.of (drewN_below wr (n1 + nq))).trans (To.set r _ 1 _)
            have hr2 := (hr.below (drewN_below wr (n1 + nq))).set (k + 1) hlt2
            have hw2 := hw.trans hT
            have hown2 := own_to hown hT hlt
            push_cast at hr2 hw2 hown2
            have hzw : w.heap.size ≤ wr.heap.size := hw.size
            clear hT hown hr hw
            go_wp2_with (at_builtin; refine wpList_append_lies _ rfl (.tmp 35) (.tmp 37) 155 rfl w.heap.size 5 i0 (.int .u8 0) 1 1 Tryz.underlying155 hi0 hz0 hz1 hz2 rfl (by decide) _ _ _ rfl (hown2.alloc _) ⟨_, 0, none⟩ 1 1 [.int .u8 x] rfl rfl (new_cells (by simp) _ _) (byte_one _) (by decide) (by unfold maxLen; omega) (by omega) (by simp; omega) _ rfl ?_; intro g cap w3 hown3 hgrow3 hat3 hlt4; have hgrow3 : World.grownBy _ w3 u4.ownBlock := hgrow3)
            have hr3 := Rs.grown h (hr2.below ((Below.refl _ _).alloc (Nat.le_refl _) (.cells #[.int .u8 x] 5))) hgrow3 (fun k hk => (hown2.lt k hk).1)
            have hw3 := (hw2.trans (To.alloc r _ (.cells #[.int .u8 x] 5))).grown hgrow3 (fun k hk => (hown2.lt k hk).1)
            have hown4 : w3.ownsRow w.heap.size 5 1 (.slice (some ⟨g, 0, none⟩) (acc.length + 1) cap) (acc ++ [b]).length ((acc ++ [b]).map byteV) := by simpa [hxb] using hown3
            have hm1 := hr3.lef
            have hm2 : lefR r t wr = t.size - k := by unfold lefR; rw [k1]; rfl
            go_roundw
            case rel => exact ⟨k + 1, acc ++ [b], by simp; omega, hlt2, HR.out.trans HF.out, hr3, hw3, hown4⟩
            case measure => omega
    · have HF : Hid (quo t k acc = none) := Lib.hid (by rw [quo_eq, dif_neg hlt2])
      have g1 : decide ((k : Int) < t.size) = false := decide_eq_false (by omega)
      go_wp2_with fail
      go_big_quiet (fail)
      go_wp2_with fail
      go_ret2
      exact ⟨_, _, by rw [HP.out, HR.out, HF.out]; rfl, hr.below (drewN_below wr nq), hw.trans (To.of (drewN_below wr nq)), fun y k' hy => by rw [HP.out, HR.out, HF.out] at hy; cases hy⟩
end Go.Proofs.YtllhimeffkefiaaGreatDoor
