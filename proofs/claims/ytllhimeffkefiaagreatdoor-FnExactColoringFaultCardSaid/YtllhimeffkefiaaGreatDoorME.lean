/- Texts of one proof, joined in their order: each bears its own word of what it holds and on what condition. -/
import Derived.Test.YtllhimeffkefiaaGreatDoorMVo
import Derived.StillTailTactics
import Derived.Test.YtllhimeffkefiaaGreatDoorMA
import Derived.Test.YtllhimeffkefiaaGreatDoorProg
import Derived.WalkKit
import Derived.KernelRfl
import Derived.Below
import Derived.Maps.OwnOps
import Derived.Maps.Views
set_option linter.unusedVariables false
set_option linter.unusedSimpArgs false
/- impl's reading of values, whole; a text's value. Condition: texts of at most 2^20 bytes. -/
set_option linter.unusedVariables false
set_option linter.unusedSimpArgs false
namespace Go.Proofs.YtllhimeffkefiaaGreatDoor
open Go.RowKit Go.Sort

set_option maxHeartbeats 4000000 in
set_option maxRecDepth 100000 in
theorem list_deep (w : World) (r : Nat) (t : ByteArray) (i : Nat) (h : Rs w r t i) (hi : byI t i = 91) :
    Calls Tryz.prog 162 #[.pointer (some ⟨r, 0, none⟩), .int .i64 5] w (ValR r t none w) := by
  have hlt := h.lt
  have hne : w.heap.size ≠ r := by omega
  have hne2 : w.heap.size + 1 ≠ r := by omega
  have HI := Lib.hid hi
  obtain ⟨hB, B4, B6⟩ := two_boxes w 6
  have h0 := h.below hB
  clear hi
  go_enter Tryz.func162, Tryz.ntmps162
  go_wp2_with (go_at_call 165; refine (eat1_yes _ r t i 91 h0 (by decide) HI.out).mono ?_; rintro e w1 ⟨rfl, hr1, ht1⟩; obtain ⟨b0, b1, b2, b3, b4, b5, bf⟩ := B4.to ht1 hne; obtain ⟨c0, c1, c2, c3, c4, c5, cf⟩ := B6.to ht1 hne2)
  exact bodyPost_ret (v := .tuple #[.agg #[.int .i64 6, .int .i64 0, .int .i64 0, .string ⟨#[]⟩, .slice none 0 0, .slice none 0 0], .bool false]) (by simp [results, Tryz.results162, go_sem, b0, b1, b2, b3, b4, b5]) rfl
    (valR_flat h hr1 ((To.of hB).trans ht1) rfl (fun y k' hy => by cases hy) [.int .i64 6, .int .i64 0, .int .i64 0, .string ⟨#[]⟩, .slice none 0 0, .slice none 0 0])
set_option maxHeartbeats 4000000 in
set_option maxRecDepth 100000 in
theorem fields_deep (w : World) (r : Nat) (t : ByteArray) (i : Nat) (h : Rs w r t i) (hi : byI t i = 123) :
    Calls Tryz.prog 163 #[.pointer (some ⟨r, 0, none⟩), .int .i64 5] w (ValR r t none w) := by
  have hlt := h.lt
  have hne : w.heap.size ≠ r := by omega
  have hne2 : w.heap.size + 1 ≠ r := by omega
  have HI := Lib.hid hi
  obtain ⟨hB, B4, B6⟩ := two_boxes w 7
  have h0 := h.below hB
  clear hi
  go_enter Tryz.func163, Tryz.ntmps163
  go_wp2_with (go_at_call 165; refine (eat1_yes _ r t i 123 h0 (by decide) HI.out).mono ?_; rintro e w1 ⟨rfl, hr1, ht1⟩; obtain ⟨b0, b1, b2, b3, b4, b5, bf⟩ := B4.to ht1 hne; obtain ⟨c0, c1, c2, c3, c4, c5, cf⟩ := B6.to ht1 hne2)
  exact bodyPost_ret (v := .tuple #[.agg #[.int .i64 7, .int .i64 0, .int .i64 0, .string ⟨#[]⟩, .slice none 0 0, .slice none 0 0], .bool false]) (by simp [results, Tryz.results163, go_sem, b0, b1, b2, b3, b4, b5]) rfl
    (valR_flat h hr1 ((To.of hB).trans ht1) rfl (fun y k' hy => by cases hy) [.int .i64 7, .int .i64 0, .int .i64 0, .string ⟨#[]⟩, .slice none 0 0, .slice none 0 0])

theorem value_any : ∀ n : Nat, n ≤ 5 → VOk (pVal n) (5 - n)
  | 0, _ => by
    have := valueB_any 5 (fun _ _ => none) (fun _ _ => none) (fun w r t i h hi => list_deep w r t i h hi) (fun w r t i h hi => fields_deep w r t i h hi)
    intro w r t i h
    exact this w r t i h
  | n + 1, hn => by
    have ih := value_any n (by omega)
    have e : (5 : Int) - ((n + 1 : Nat) : Int) + 1 = 5 - (n : Int) := by omega
    rw [← e] at ih
    have := valueB_any (5 - ((n + 1 : Nat) : Int)) (pList (pVal n)) (pMap (pVal n)) (fun w r t i h hi => list_any _ (by omega) (by omega) _ ih (pVal_fwd n) w r t i h hi) (fun w r t i h hi => fields_any _ (by omega) (by omega) _ ih (pVal_fwd n) w r t i h hi)
    intro w r t i h
    exact this w r t i h
end Go.Proofs.YtllhimeffkefiaaGreatDoor
/- impl's reading of a text as a value. No condition on the text. -/
set_option linter.unusedVariables false
set_option linter.unusedSimpArgs false
namespace Go.Proofs.YtllhimeffkefiaaGreatDoor
open Go.RowKit Go.Sort

def pRead (t : ByteArray) : Option Val := if t.size ≤ 2000 then (pVal 5 t 0).bind fun p => if p.2 = t.size then some p.1 else none else none
def ReadR (p : Option Val) (w : World) (e : Ending) (w' : World) : Prop :=
  ∃ v x, e = .returned (.tuple #[v, .bool p.isSome]) ∧ VI w' (fun b => w.heap.size ≤ b) v x ∧ Below w.heap.size w w' ∧ ∀ y, p = some y → x = y

theorem readR {w W0 w1 : World} {g : Nat → Value} {x : Val} {k n m : Int} {s : ByteArray} {a1 a2 : Option Addr} {l1 l2 c1 c2 : Nat} {p : Option Val} {b : Bool} {o : Obj} (hB : Below w.heap.size w W0) (hW : W0.heap.size = w.heap.size + 2) (ht : To (w.heap.size + 1) W0 w1)
    (hE : EV 4 5 w1 (fun b => W0.heap.size ≤ b) g x) (hg : c6 g = [.int .i64 k, .int .i64 n, .int .i64 m, .string s, .slice a1 l1 c1, .slice a2 l2 c2]) (hb : b = p.isSome) (hp : ∀ y, p = some y → x = y) :
    ReadR p w (.returned (.tuple #[.agg #[.int .i64 k, .int .i64 n, .int .i64 m, .string s, .slice a1 l1 c1, .slice a2 l2 c2], .bool b])) ((sets w1 w.heap.size 0 [.int .i64 k, .int .i64 n, .int .i64 m, .string s, .slice a1 l1 c1, .slice a2 l2 c2]).alloc o).drew := by
  have hs1 : w.heap.size ≤ w1.heap.size := Nat.le_trans hB.size ht.size
  have b1 := hB.trans (ht.below (B := w.heap.size) (by omega) hB.size)
  have b2 := sets_below (g := w.heap.size) (Nat.le_refl _) [.int .i64 k, .int .i64 n, .int .i64 m, .string s, .slice a1 l1 c1, .slice a2 l2 c2] 0 _ b1
  have b3 := (b2.alloc b2.size o).trans ((below_drew _).mono (Nat.le_trans b2.size (by simp)))
  refine ⟨_, x, by rw [hb], ⟨g, ?_, ?_⟩, b3, hp⟩
  · simp only [c6, List.cons.injEq] at hg
    obtain ⟨h0, h1, h2, h3, h4, h5, _⟩ := hg
    rw [h0, h1, h2, h3, h4, h5]
  · have E1 : EV 4 5 (sets w1 w.heap.size 0 [.int .i64 k, .int .i64 n, .int .i64 m, .string s, .slice a1 l1 c1, .slice a2 l2 c2]) (fun b => W0.heap.size ≤ b) g x := EV_kept 4 5 (fun b hb _ => sets_heap _ _ _ _ b (by omega)) x g hE
    generalize sets w1 w.heap.size 0 [.int .i64 k, .int .i64 n, .int .i64 m, .string s, .slice a1 l1 c1, .slice a2 l2 c2] = w2 at E1
    have E2 : EV 4 5 (w2.alloc o) (fun b => W0.heap.size ≤ b) g x := EV_kept 4 5 (fun b hb hlt => ((Below.refl w2.heap.size w2).alloc (Nat.le_refl _) o).block b hlt) x g E1
    generalize w2.alloc o = w3 at E2
    have E3 : EV 4 5 w3.drew (fun b => W0.heap.size ≤ b) g x := EV_kept 4 5 (fun b hb hlt => (below_drew w3).block b hlt) x g E2
    exact EV_mono 4 5 (fun b hb => by omega) x g E3

set_option maxHeartbeats 4000000 in
set_option maxRecDepth 100000 in
theorem read_any (w : World) (hE : Env w) (t : ByteArray) (hz : Sz t) : Calls Tryz.prog 136 #[.string t] w (ReadR (pRead t) w) := by
  by_cases hl : t.size ≤ 2000
  · have hl' : (t.size : Int) ≤ 2000 := by omega
    have hB : Below w.heap.size w ((w.alloc (boxT 0)).alloc (.cells #[.string t, .int .i64 0] 201)) := ((Below.refl _ w).alloc (Nat.le_refl _) _).alloc (by simp) _
    have h0 : Rs ((w.alloc (boxT 0)).alloc (.cells #[.string t, .int .i64 0] 201)) (w.heap.size + 1) t 0 := by
      have hn : (w.alloc (boxT 0)).heap.size = w.heap.size + 1 := by simp
      refine ⟨?_, ?_, ?_, hE.below hB, fun hg => by have := hE.siz _ hg; omega, Nat.zero_le _, by omega⟩
      · rw [← hn, World.cell?_alloc_mark]; rfl
      · rw [← hn, World.cell?_alloc_mark]; rfl
      · rw [← hn, World.frozen?_alloc_mark]; simp
    have B4 : Box ((w.alloc (boxT 0)).alloc (.cells #[.string t, .int .i64 0] 201)) w.heap.size (.int .i64 0) (.int .i64 0) (.int .i64 0) (.string ⟨#[]⟩) (.slice none 0 0) (.slice none 0 0) := (Box.alloc w _ _ _ _ _ _ _).to (To.alloc (w.heap.size + 5) _ _) (by omega)
    have hv := value_any 5 (by omega)
    cases hp : pVal 5 t 0 with
    | none =>
      have HP : Hid (pRead t = none) := Lib.hid (by unfold pRead; rw [if_pos hl, hp]; rfl)
      have HV := Lib.hid hp
      clear hp
      go_enter Tryz.func136, Tryz.ntmps136
      go_wp2_with (go_at_call 146; refine (hv _ _ t 0 h0).mono ?_; rintro e w1 ⟨vv, x, j, he, hVI, hr1, ht1, hval⟩; obtain ⟨k', n', m', s', a1, l1, c1', a2, l2, c2', g, rfl, hg, hEV⟩ := hVI.lits; rw [HV.out] at he; subst he; have bz : w.heap.size < w1.heap.size := (B4.to ht1 (by omega)).lt; have bz2 : w.heap.size ≠ w1.heap.size := (by omega); obtain ⟨p0, p1, p2, p3, p4, p5, pf⟩ := B4.to ht1 (by omega))
      go_region
      go_wp2
      exact bodyPost_ret (v := .tuple #[.agg #[.int .i64 k', .int .i64 n', .int .i64 m', .string s', .slice a1 l1 c1', .slice a2 l2 c2'], .bool false]) (by simp [results, Tryz.results136, go_sem, p0, p1, p2, p3, p4, p5, bz]) rfl
        (readR hB (by simp) ht1 hEV hg (by rw [HP.out]; rfl) (fun y hy => by rw [HP.out] at hy; cases hy))
    | some p =>
      obtain ⟨y, k⟩ := p
      by_cases hk : k = t.size
      · have HP : Hid (pRead t = some y) := Lib.hid (by unfold pRead; rw [if_pos hl, hp]; exact if_pos hk)
        have HV := Lib.hid hp
        subst hk
        clear hp
        go_enter Tryz.func136, Tryz.ntmps136
        go_wp2_with (go_at_call 146; refine (hv _ _ t 0 h0).mono ?_; rintro e w1 ⟨vv, x, j, he, hVI, hr1, ht1, hval⟩; obtain ⟨k', n', m', s', a1, l1, c1', a2, l2, c2', g, rfl, hg, hEV⟩ := hVI.lits; rw [HV.out] at he; subst he; obtain ⟨rfl, rfl⟩ := hval _ _ HV.out; have bz : w.heap.size < w1.heap.size := (B4.to ht1 (by omega)).lt; have bz2 : w.heap.size ≠ w1.heap.size := (by omega); have q1 := hr1.c1; have bz3 : w.heap.size + 1 < w1.heap.size := hr1.lt; obtain ⟨p0, p1, p2, p3, p4, p5, pf⟩ := B4.to ht1 (by omega))
        go_region
        go_wp2
        exact bodyPost_ret (v := .tuple #[.agg #[.int .i64 k', .int .i64 n', .int .i64 m', .string s', .slice a1 l1 c1', .slice a2 l2 c2'], .bool true]) (by simp [results, Tryz.results136, go_sem, p0, p1, p2, p3, p4, p5, bz]) rfl
          (readR hB (by simp) ht1 hEV hg (by rw [HP.out]; rfl) (fun y hy => by rw [HP.out] at hy; cases hy; rfl))
      · have HP : Hid (pRead t = none) := Lib.hid (by unfold pRead; rw [if_pos hl, hp]; exact if_neg hk)
        have HV := Lib.hid hp
        have hk2 : ((k : Int) == (t.size : Int)) = false := by simp; omega
        clear hp hk
        go_enter Tryz.func136, Tryz.ntmps136
        go_wp2_with (go_at_call 146; refine (hv _ _ t 0 h0).mono ?_; rintro e w1 ⟨vv, x, j, he, hVI, hr1, ht1, hval⟩; obtain ⟨k', n', m', s', a1, l1, c1', a2, l2, c2', g, rfl, hg, hEV⟩ := hVI.lits; rw [HV.out] at he; subst he; obtain ⟨rfl, rfl⟩ := hval _ _ HV.out; have bz : w.heap.size < w1.heap.size := (B4.to ht1 (by omega)).lt; have bz2 : w.heap.size ≠ w1.heap.size := (by omega); have q1 := hr1.c1; have bz3 : w.heap.size + 1 < w1.heap.size := hr1.lt; obtain ⟨p0, p1, p2, p3, p4, p5, pf⟩ := B4.to ht1 (by omega))
        go_region
        go_wp2
        exact bodyPost_ret (v := .tuple #[.agg #[.int .i64 k', .int .i64 n', .int .i64 m', .string s', .slice a1 l1 c1', .slice a2 l2 c2'], .bool false]) (by simp [results, Tryz.results136, go_sem, p0, p1, p2, p3, p4, p5, bz]) rfl
          (readR hB (by simp) ht1 hEV hg (by rw [HP.out]; rfl) (fun y hy => by rw [HP.out] at hy; cases hy))
  · have HP : Hid (pRead t = none) := Lib.hid (by unfold pRead; rw [if_neg hl])
    have hl' : (2000 : Int) < t.size := by omega
    unfold Sz at hz
    have hz' : (t.size : Int) ≤ 9223372036854775807 := by omega
    go_enter Tryz.func136, Tryz.ntmps136
    go_wp2
    exact bodyPost_ret (v := .tuple #[.agg #[.int .i64 0, .int .i64 0, .int .i64 0, .string ⟨#[]⟩, .slice none 0 0, .slice none 0 0], .bool false]) (by simp [results, Tryz.results136, go_sem]) rfl
      ⟨_, flat 0 0 0 e0, by rw [HP.out]; rfl, VI.flat _ _ _ _ _ _, (Below.refl _ w).alloc (Nat.le_refl _) _, fun y hy => by rw [HP.out] at hy; cases hy⟩
end Go.Proofs.YtllhimeffkefiaaGreatDoor
/- impl's tests of fields. Condition: none. -/
set_option linter.unusedVariables false
set_option linter.unusedSimpArgs false
namespace Go.Proofs.YtllhimeffkefiaaGreatDoor
open Go.RowKit Go.Sort
attribute [local go_sem] binOp_string_geq'

mutual
def wildV : Val → Bool
  | .mk k _ _ _ _ items => decide (8 ≤ k) || wildVs items
def wildVs : List Val → Bool
  | [] => false
  | x :: xs => wildV x || wildVs xs
end
theorem wildVs_any : ∀ xs : List Val, wildVs xs = xs.any wildV
  | [] => by simp [wildVs]
  | x :: xs => by simp [wildVs, wildVs_any xs]
theorem VI.belowA {w : World} {S : Nat → Prop} {v : Value} {x : Val} (h : VI w S v x) (o : Obj) : VI (w.alloc o) S v x := by
  obtain ⟨f, hf, hE⟩ := h
  exact ⟨f, hf, EV_kept 4 5 (fun b _ hlt => ((Below.refl w.heap.size w).alloc (Nat.le_refl _) o).block b hlt) x f hE⟩
def BoolB (b : Bool) (w : World) (e : Ending) (w' : World) : Prop := e = .returned (.bool b) ∧ Below w.heap.size w w'
def WildOk (x : Val) : Prop := ∀ (w : World) (S : Nat → Prop) (v : Value), VI w S v x → Calls Tryz.prog 137 #[v] w (BoolB (wildV x) w)
theorem wild_take {xs : List Val} {k : Nat} (hk : k < xs.length) : (xs.take (k + 1)).any wildV = ((xs.take k).any wildV || wildV xs[k]) := by
  rw [List.take_succ_eq_append_getElem hk, List.any_append]
  simp

set_option maxHeartbeats 4000000 in
set_option maxRecDepth 100000 in
theorem wild_step (k n m : Int) (s : ByteArray) (ns : List ByteArray) (items : List Val) (ih : ∀ y ∈ items, WildOk y) : WildOk (.mk k n m s ns items) := by
  intro w S v hV
  obtain ⟨f, rfl, hE⟩ := hV
  obtain ⟨h0, h1, h2, h3, h4, h5⟩ := EV_iff.1 hE
  obtain ⟨a4, c4, e4⟩ := h4.shape
  obtain ⟨a5, c5, e5⟩ := h5.shape
  rw [h0, h1, h2, h3, e4, e5]
  rw [e5] at h5
  have hlen := h5.len
  by_cases hk : 8 ≤ k
  · have HW : Hid (wildV (.mk k n m s ns items) = true) := Lib.hid (by simp only [wildV]; rw [decide_eq_true hk]; rfl)
    clear hE h0 h1 h2 h3 h4 e4 e5
    go_enter Tryz.func137, Tryz.ntmps137
    go_wp2
    go_ret
    exact ⟨by rw [HW.out]; rfl, (Below.refl _ w).alloc (Nat.le_refl _) _⟩
  · have HW : Hid (wildV (.mk k n m s ns items) = items.any wildV) := Lib.hid (by simp only [wildV]; rw [decide_eq_false hk, wildVs_any]; rfl)
    have hk' : k < 8 := by omega
    clear hE h0 h1 h2 h3 h4 e4 e5 hk
    have hl2 : (items.length : Int) ≤ 9223372036854775807 := by omega
    go_enter Tryz.func137, Tryz.ntmps137
    go_wp2
    go_loopw [11] (fun iv wr => ∃ j : Nat, iv = .int .i64 j ∧ j ≤ items.length ∧ Hid ((items.take j).any wildV = false) ∧ Below w.heap.size w wr) (fun iv wr => items.length - (intOf iv).toNat)
    case atStart => exact ⟨0, rfl, Nat.zero_le _, Lib.hid (by simp), (Below.refl _ w).alloc (Nat.le_refl _) _⟩
    case round =>
      obtain ⟨j, rfl, hj, HJ, hb⟩ := hrel
      have hj2 : (j : Int) ≤ items.length := by omega
      by_cases hlt : j < items.length
      · have hr5 := h5.below (EV.kept 4 5) hb
        obtain ⟨b, o, g, rfl, hS, hc, hEg⟩ := hr5.get hlt
        have hVI : VI wr S (.agg #[g 0, g 1, g 2, g 3, g 4, g 5]) items[j] := ⟨g, rfl, hEg⟩
        obtain ⟨k', n', m', s', a1, l1, c1', a2, l2, c2', g', hv, _, _⟩ := hVI.lits
        simp only [Value.agg.injEq, Array.mk.injEq, List.cons.injEq, and_true] at hv
        obtain ⟨v0, v1, v2, v3, v4, v5⟩ := hv
        have d0 := hc 0 (by decide)
        have d1 := hc 1 (by decide)
        have d2 := hc 2 (by decide)
        have d3 := hc 3 (by decide)
        have d4 := hc 4 (by decide)
        have d5 := hc 5 (by decide)
        rw [v0] at d0; rw [v1] at d1; rw [v2] at d2; rw [v3] at d3; rw [v4] at d4; rw [v5] at d5
        rw [v0, v1, v2, v3, v4, v5] at hVI
        rw [Nat.add_zero] at d0
        have hVA := hVI.belowA (.cells #[.int .i64 k', .int .i64 n', .int .i64 m', .string s', .slice a1 l1 c1', .slice a2 l2 c2'] 184)
        have HT := Lib.hid (wild_take hlt)
        cases hw : wildV items[j] with
        | true =>
          have HWj := Lib.hid hw
          have HF : Hid (items.any wildV = true) := Lib.hid (List.any_eq_true.2 ⟨_, List.getElem_mem hlt, hw⟩)
          clear hw hc hEg hr5 v0 v1 v2 v3 v4 v5
          go_wp2_with (go_at_call 137; refine (ih items[j] (List.getElem_mem hlt) _ S _ hVA).mono ?_; rintro e w2 ⟨he, hb2⟩; rw [HWj.out] at he; subst he)
          go_ret
          exact ⟨by rw [HW.out, HF.out]; rfl, (hb.alloc hb.size _).trans (hb2.mono (Nat.le_trans hb.size (by simp)))⟩
        | false =>
          have HWj := Lib.hid hw
          have HJ2 : Hid ((items.take (j + 1)).any wildV = false) := Lib.hid (by rw [HT.out, HJ.out, hw]; rfl)
          clear hw hc hEg hr5 v0 v1 v2 v3 v4 v5
          go_wp2_with (go_at_call 137; refine (ih items[j] (List.getElem_mem hlt) _ S _ hVA).mono ?_; rintro e w2 ⟨he, hb2⟩; rw [HWj.out] at he; subst he)
          go_roundw
          case rel => exact ⟨j + 1, by go_num, by omega, HJ2, (hb.alloc hb.size _).trans (hb2.mono (Nat.le_trans hb.size (by simp)))⟩
          case measure => simp [intOf]; omega
      · have hj3 : j = items.length := by omega
        have HF : Hid (items.any wildV = false) := Lib.hid (by rw [← HJ.out, hj3, List.take_length])
        subst hj3
        go_wp2
        go_ret
        exact ⟨by rw [HW.out, HF.out]; rfl, hb⟩
mutual
theorem wild_any : ∀ x : Val, WildOk x
  | .mk k n m s ns items => wild_step k n m s ns items (wilds_any items)
theorem wilds_any : ∀ (xs : List Val), ∀ y ∈ xs, WildOk y
  | [], y, h => by simp at h
  | x :: xs, y, h => by
    rcases List.mem_cons.1 h with e | e
    · exact e ▸ wild_any x
    · exact wilds_any xs y e
end
def fvB (t : ByteArray) : Bool := match pRead t with
  | none => false
  | some v => decide (v.kind ≠ 0) && !wildV v
set_option maxHeartbeats 4000000 in
set_option maxRecDepth 100000 in
theorem fieldValue_any (w : World) (hE : Env w) (t : ByteArray) (hz : Sz t) : Calls Tryz.prog 119 #[.string t] w (BoolB (fvB t) w) := by
  cases hp : pRead t with
  | none =>
    have HF : Hid (fvB t = false) := Lib.hid (by unfold fvB; rw [hp])
    have HP := Lib.hid hp
    clear hp
    go_enter Tryz.func119, Tryz.ntmps119
    go_wp2_with (go_at_call 136; refine (read_any _ hE t hz).mono ?_; rintro e w1 ⟨vv, x, he, hVI, hb1, hx⟩; obtain ⟨k', n', m', s', a1, l1, c1', a2, l2, c2', g, rfl, hg, hEV, hkk⟩ := hVI.litsK; rw [HP.out] at he; subst he)
    go_ret
    exact ⟨by rw [HF.out]; rfl, hb1.alloc hb1.size _⟩
  | some y =>
    have HF : Hid (fvB t = (decide (y.kind ≠ 0) && !wildV y)) := Lib.hid (by unfold fvB; rw [hp])
    have HP := Lib.hid hp
    clear hp
    by_cases hk : y.kind = 0
    · have HF2 : Hid (fvB t = false) := Lib.hid (by rw [HF.out, hk]; rfl)
      have HK := Lib.hid hk
      clear hk
      go_enter Tryz.func119, Tryz.ntmps119
      go_wp2_with (go_at_call 136; refine (read_any _ hE t hz).mono ?_; rintro e w1 ⟨vv, x, he, hVI, hb1, hx⟩; obtain ⟨k', n', m', s', a1, l1, c1', a2, l2, c2', g, rfl, hg, hEV, hkk⟩ := hVI.litsK; rw [HP.out] at he; subst he; have hyx := hx y HP.out; subst hyx; rw [hkk] at HK; have hK := HK.out; subst hK)
      go_ret
      exact ⟨by rw [HF2.out]; rfl, hb1.alloc hb1.size _⟩
    · have HK := Lib.hid hk
      cases hw : wildV y with
      | true =>
        have HF2 : Hid (fvB t = false) := Lib.hid (by rw [HF.out, hw]; simp)
        have HWy := Lib.hid hw
        clear hk hw
        go_enter Tryz.func119, Tryz.ntmps119
        go_wp2_with (first
          | (go_at_call 136; refine (read_any _ hE t hz).mono ?_; rintro e w1 ⟨vv, x, he, hVI, hb1, hx⟩; obtain ⟨k', n', m', s', a1, l1, c1', a2, l2, c2', g, rfl, hg, hEV, hkk⟩ := hVI.litsK; rw [HP.out] at he; subst he; have hyx := hx y HP.out; subst hyx; rw [hkk] at HK; have hK : (k' != 0) = true := (by simpa using HK.out); have hVA := hVI.belowA (.cells #[.int .i64 k', .int .i64 n', .int .i64 m', .string s', .slice a1 l1 c1', .slice a2 l2 c2'] 184))
          | (go_at_call 137; refine (wild_any _ _ _ _ hVA).mono ?_; rintro e w2 ⟨he, hb2⟩; rw [HWy.out] at he; subst he))
        go_ret
        exact ⟨by rw [HF2.out]; rfl, (hb1.alloc hb1.size _).trans (hb2.mono (Nat.le_trans hb1.size (by simp)))⟩
      | false =>
        have HF2 : Hid (fvB t = true) := Lib.hid (by rw [HF.out, hw]; simpa using hk)
        have HWy := Lib.hid hw
        clear hk hw
        go_enter Tryz.func119, Tryz.ntmps119
        go_wp2_with (first
          | (go_at_call 136; refine (read_any _ hE t hz).mono ?_; rintro e w1 ⟨vv, x, he, hVI, hb1, hx⟩; obtain ⟨k', n', m', s', a1, l1, c1', a2, l2, c2', g, rfl, hg, hEV, hkk⟩ := hVI.litsK; rw [HP.out] at he; subst he; have hyx := hx y HP.out; subst hyx; rw [hkk] at HK; have hK : (k' != 0) = true := (by simpa using HK.out); have hVA := hVI.belowA (.cells #[.int .i64 k', .int .i64 n', .int .i64 m', .string s', .slice a1 l1 c1', .slice a2 l2 c2'] 184))
          | (go_at_call 137; refine (wild_any _ _ _ _ hVA).mono ?_; rintro e w2 ⟨he, hb2⟩; rw [HWy.out] at he; subst he))
        go_ret
        exact ⟨by rw [HF2.out]; rfl, (hb1.alloc hb1.size _).trans (hb2.mono (Nat.le_trans hb1.size (by simp)))⟩
end Go.Proofs.YtllhimeffkefiaaGreatDoor
/- impl's tests of labels and of rows of fields. Condition: none. -/
set_option linter.unusedVariables false
set_option linter.unusedSimpArgs false
namespace Go.Proofs.YtllhimeffkefiaaGreatDoor
open Go.RowKit Go.Sort
attribute [local go_sem] binOp_string_geq'

def allN (p : Nat → Bool) : Nat → Bool
  | 0 => true
  | n + 1 => allN p n && p n
theorem allN_no {p : Nat → Bool} : ∀ {n k : Nat}, k < n → p k = false → allN p n = false
  | 0, k, h, _ => by omega
  | n + 1, k, h, hp => by
    simp only [allN]
    by_cases e : k = n
    · subst e; rw [hp]; simp
    · rw [allN_no (n := n) (by omega) hp]; rfl
theorem allN_up {p : Nat → Bool} {n : Nat} (h : allN p n = true) (hp : p n = true) : allN p (n + 1) = true := by simp only [allN]; rw [h, hp]; rfl
theorem allN_iff {p : Nat → Bool} : ∀ {n : Nat}, allN p n = true ↔ ∀ k, k < n → p k = true
  | 0 => by simp [allN]
  | n + 1 => by
    simp only [allN, Bool.and_eq_true, allN_iff (n := n)]
    constructor
    · intro ⟨h1, h2⟩ k hk
      by_cases e : k = n
      · exact e ▸ h2
      · exact h1 k (by omega)
    · intro h
      exact ⟨fun k hk => h k (by omega), h n (by omega)⟩
def risAt (ns : List ByteArray) (k : Nat) : Bool := nameB (ns.getD k e0) && (decide (k = 0) || ltS (ns.getD (k - 1) e0) (ns.getD k e0))
def risB (most : Nat) (ns : List ByteArray) : Bool := decide (ns.length ≤ most) && allN (risAt ns) ns.length
theorem getD_eq {α : Type} {l : List α} {k : Nat} {d : α} (h : k < l.length) : l.getD k d = l[k] := by
  rw [List.getD_eq_getElem?_getD, List.getElem?_eq_getElem h]; rfl

set_option maxHeartbeats 4000000 in
set_option maxRecDepth 100000 in
theorem risingNames_any (w : World) (S : Nat → Prop) (v : Value) (ns : List ByteArray) (most : Nat) (hm : most ≤ 1000) (h : RStr w S v ns) : Calls Tryz.prog 105 #[v, .int .i64 most] w (BoolR (risB most ns) w) := by
  obtain ⟨a, c, rfl⟩ := h.shape
  have hlen := h.len
  have hlen2 : (ns.length : Int) ≤ 9223372036854775807 := by omega
  by_cases hl : ns.length ≤ most
  · have HR : Hid (risB most ns = allN (risAt ns) ns.length) := Lib.hid (by unfold risB; rw [decide_eq_true hl]; rfl)
    have g1 : decide ((most : Int) < ns.length) = false := decide_eq_false (by omega)
    have hl2 : (ns.length : Int) ≤ 1000 := by omega
    have hl3 : decide (most < ns.length) = false := decide_eq_false (by omega)
    go_enter Tryz.func105, Tryz.ntmps105
    go_wp2
    go_loop [13] (fun i => ∃ k : Nat, k ≤ ns.length ∧ i = .int .i64 k ∧ Hid (allN (risAt ns) k = true)) (fun i => ns.length - (intOf i).toNat)
    case atStart => exact ⟨0, by omega, rfl, rfl⟩
    case round =>
      obtain ⟨k, hk, rfl, HA⟩ := hrel
      have hk2 : (k : Int) ≤ ns.length := by omega
      by_cases hlt : k < ns.length
      · obtain ⟨b, o, rfl, hS, hc, hz⟩ := RStr.at h hlt
        have hlt2 : (k : Int) < ns.length := by omega
        obtain ⟨s, hs⟩ : ∃ s, ns[k] = s := ⟨_, rfl⟩
        rw [hs] at hc hz
        have HS : Hid (ns.getD k e0 = s) := Lib.hid ((getD_eq hlt).trans hs)
        clear hs
        cases hn : nameB s with
        | false =>
          have HF : Hid (risB most ns = false) := Lib.hid (by rw [HR.out]; exact allN_no hlt (by unfold risAt; rw [HS.out, hn]; rfl))
          go_wp2_with (go_at_call 107; refine (isName_is _ _ _ hn).mono ?_; rintro e w' ⟨rfl, rfl⟩)
          go_ret
          exact boolR (by rw [HF.out])
        | true =>
          by_cases h0 : k = 0
          · subst h0
            rw [Nat.add_zero] at hc
            have HA' : Hid (allN (risAt ns) 1 = true) := Lib.hid (allN_up HA.out (by unfold risAt; rw [HS.out, hn]; rfl))
            go_wp2_with (go_at_call 107; refine (isName_is _ _ _ hn).mono ?_; rintro e w' ⟨rfl, rfl⟩)
            go_round
            case rel => exact ⟨1, by omega, by go_num, HA'⟩
            case measure => simp [intOf]; omega
          · have hk0 : (0 : Int) < k := by omega
            obtain ⟨b', o', hab, _, hc', _⟩ := RStr.at h (k := k - 1) (by omega)
            cases hab
            have g2 : ((k : Int) - 1).toNat = k - 1 := by omega
            have g3 : (0 : Int) ≤ (k : Int) - 1 := by omega
            have g4 : (k : Int) - 1 < ns.length := by omega
            obtain ⟨la, hla⟩ : ∃ la, ns[k - 1] = la := ⟨_, rfl⟩
            rw [hla] at hc'
            have HL : Hid (ns.getD (k - 1) e0 = la) := Lib.hid ((getD_eq (by omega)).trans hla)
            have g5 : decide ((0 : Int) < k) = true := decide_eq_true hk0
            clear hla
            cases hb : Op.bytesLess la.toList s.toList with
            | true =>
              have HA' : Hid (allN (risAt ns) (k + 1) = true) := Lib.hid (allN_up HA.out (by unfold risAt; rw [HS.out, HL.out, hn]; unfold ltS; rw [hb]; simp))
              go_wp2_with (go_at_call 107; refine (isName_is _ _ _ hn).mono ?_; rintro e w' ⟨rfl, rfl⟩)
              go_round
              case rel => exact ⟨k + 1, by omega, by go_num, HA'⟩
              case measure => simp [intOf]; omega
            | false =>
              have HF : Hid (risB most ns = false) := Lib.hid (by rw [HR.out]; exact allN_no hlt (by unfold risAt; rw [HS.out, HL.out, hn]; unfold ltS; rw [hb, decide_eq_false h0]; rfl))
              go_wp2_with (go_at_call 107; refine (isName_is _ _ _ hn).mono ?_; rintro e w' ⟨rfl, rfl⟩)
              go_ret
              exact boolR (by rw [HF.out])
      · have hk3 : k = ns.length := by omega
        subst hk3
        go_wp2
        go_ret
        exact boolR (by rw [HR.out, HA.out])
  · have HF : Hid (risB most ns = false) := Lib.hid (by unfold risB; rw [decide_eq_false hl]; rfl)
    have g1 : decide ((most : Int) < ns.length) = true := decide_eq_true (by omega)
    go_enter Tryz.func105, Tryz.ntmps105
    go_wp2
    go_ret
    exact boolR (by rw [HF.out])
end Go.Proofs.YtllhimeffkefiaaGreatDoor
/- impl's tests of rows of fields, of nodes and edges. Condition: none. -/
set_option linter.unusedVariables false
set_option linter.unusedSimpArgs false
namespace Go.Proofs.YtllhimeffkefiaaGreatDoor
open Go.RowKit Go.Sort
attribute [local go_sem] binOp_string_geq'

abbrev f0 : Fld := ⟨e0, e0⟩
def flAt (fs : List Fld) (k : Nat) : Bool := nameB (fs.getD k f0).name && (decide (k = 0) || ltS (fs.getD (k - 1) f0).name (fs.getD k f0).name) && fvB (fs.getD k f0).value
def flsB (fs : List Fld) : Bool := decide (fs.length ≤ 20) && allN (flAt fs) fs.length

theorem fieldValue_is (w : World) (hE : Env w) (t : ByteArray) (hz : Sz t) (b : Bool) (h : fvB t = b) : Calls Tryz.prog 119 #[.string t] w (BoolB b w) := h ▸ fieldValue_any w hE t hz
set_option maxHeartbeats 400000 in
set_option maxRecDepth 100000 in
theorem fieldsOk_any (w : World) (hE : Env w) (S : Nat → Prop) (v : Value) (fs : List Fld) (h : RFld w S v fs) : Calls Tryz.prog 106 #[v] w (BoolB (flsB fs) w) := by
  obtain ⟨a, c, rfl⟩ := h.shape
  have hlen := h.len
  have hlen2 : (fs.length : Int) ≤ 9223372036854775807 := by omega
  by_cases hl : fs.length ≤ 20
  · have HR : Hid (flsB fs = allN (flAt fs) fs.length) := Lib.hid (by unfold flsB; rw [decide_eq_true hl]; rfl)
    have g1 : decide ((20 : Int) < fs.length) = false := decide_eq_false (by omega)
    have hl2 : (fs.length : Int) ≤ 20 := by omega
    have hl3 : decide (20 < fs.length) = false := decide_eq_false (by omega)
    go_enter Tryz.func106, Tryz.ntmps106
    go_wp2
    go_loopw [10] (fun i wr => ∃ k : Nat, k ≤ fs.length ∧ i = .int .i64 k ∧ Hid (allN (flAt fs) k = true) ∧ Below w.heap.size w wr) (fun i wr => fs.length - (intOf i).toNat)
    case atStart => exact ⟨0, by omega, rfl, rfl, Below.refl _ _⟩
    case round =>
      obtain ⟨k, hk, rfl, HA, hb⟩ := hrel
      have hk2 : (k : Int) ≤ fs.length := by omega
      by_cases hlt : k < fs.length
      · have hr := h.below EFld.kept hb
        obtain ⟨b, o, rfl, hS0, hc, hc1, hzn, hzv⟩ := RFld.at hr hlt
        have hlt2 : (k : Int) < fs.length := by omega
        obtain ⟨nm, hnm⟩ : ∃ s, fs[k].name = s := ⟨_, rfl⟩
        obtain ⟨vl, hvl⟩ : ∃ s, fs[k].value = s := ⟨_, rfl⟩
        rw [hnm] at hc hzn
        rw [hvl] at hc1 hzv
        have HS : Hid ((fs.getD k f0).name = nm) := Lib.hid (by rw [getD_eq hlt, hnm])
        have HV : Hid ((fs.getD k f0).value = vl) := Lib.hid (by rw [getD_eq hlt, hvl])
        clear hnm hvl
        obtain ⟨la, pb, po, hp, hpk⟩ : ∃ la pb po, wr.cell? ⟨pb, po, none⟩ = some (.string la) ∧ (k ≠ 0 → pb = b ∧ po = o + (k - 1) * 2 ∧ (fs.getD (k - 1) f0).name = la) := by
          by_cases h0 : k = 0
          · exact ⟨_, _, _, hc, fun q => absurd h0 q⟩
          · obtain ⟨b', o', hab, _, hc', _⟩ := RFld.at hr (k := k - 1) (by omega)
            cases hab
            exact ⟨_, _, _, hc', fun _ => ⟨rfl, rfl, by rw [getD_eq (by omega)]⟩⟩
        have g2 : k ≠ 0 → ((k : Int) - 1).toNat = k - 1 := fun q => by omega
        have hn0 : ∃ q, nameB nm = q := ⟨_, rfl⟩
        have hf0 : ∃ q, fvB vl = q := ⟨_, rfl⟩
        obtain ⟨q1, hn⟩ := hn0
        obtain ⟨q2, hfv⟩ := hf0
        have hEr := hE.below hb
        have hbW := hb.alloc hb.size (.cells #[.string nm, .string vl] 154)
        have hbx : wr.heap.size < (wr.alloc (.cells #[.string nm, .string vl] 154)).heap.size := by simp
        have x0 : (wr.alloc (.cells #[.string nm, .string vl] 154)).cell? ⟨wr.heap.size, 0, none⟩ = some (.string nm) := by rw [World.cell?_alloc_mark]; rfl
        have x1 : (wr.alloc (.cells #[.string nm, .string vl] 154)).cell? ⟨wr.heap.size, 1, none⟩ = some (.string vl) := by rw [World.cell?_alloc_mark]; rfl
        have hpW : (wr.alloc (.cells #[.string nm, .string vl] 154)).cell? ⟨pb, po, none⟩ = some (.string la) := cell_kept (fun hq => ((Below.refl wr.heap.size wr).alloc (Nat.le_refl _) _).block _ hq) hp
        have hEW := hE.below hbW
        obtain ⟨bx, hbxe⟩ : ∃ bx, wr.heap.size = bx := ⟨_, rfl⟩
        cases q1 with
        | false =>
          have HF : Hid (flsB fs = false) := Lib.hid (by rw [HR.out]; exact allN_no hlt (by unfold flAt; rw [HS.out, hn]; rfl))
          clear hp hpk
          go_wp2_with fail
          rw [hbxe] at hbx x0 x1
          generalize wr.alloc (.cells #[.string nm, .string vl] 154) = W at hbW hbx x0 x1 hpW hEW ⊢
          clear hc hc1
          go_big_quiet ((go_at_call 107; exact Calls.quiet_of_same ((isName_is _ _ _ hn).mono fun e w' h => ⟨h.1, h.2.symm⟩)))
          go_wp2_with fail
          go_ret
          exact ⟨by rw [HF.out]; rfl, hbW.trans ((drewN_below W _).mono hbW.size)⟩
        | true =>
          have hout : (k = 0 ∨ ltS la nm = true) → flAt fs k = q2 := fun h => by
            unfold flAt
            rw [HS.out, HV.out, hn, hfv]
            rcases h with h | h
            · subst h; simp
            · by_cases h0 : k = 0
              · subst h0; simp
              · rw [(hpk h0).2.2, h]; simp
          by_cases h0 : k = 0
          · subst h0
            have hfl := Lib.hid (hout (.inl rfl))
            clear hout hp hpk
            simp only [Nat.zero_mul, Nat.add_zero] at hc hc1
            go_wp2_with fail
            rw [hbxe] at hbx x0 x1
            generalize wr.alloc (.cells #[.string nm, .string vl] 154) = W at hbW hbx x0 x1 hpW hEW ⊢
            clear hc hc1
            refine tail_quiet 22 (by kernel_rfl) (by kernel_rfl) ?_
            intro W1 hW1
            have y0 : W1.cell? ⟨bx, 0, none⟩ = some (.string nm) := by rw [hW1]; exact x0
            have y1 : W1.cell? ⟨bx, 1, none⟩ = some (.string vl) := by rw [hW1]; exact x1
            have y2 : W1.cell? ⟨pb, po, none⟩ = some (.string la) := by rw [hW1]; exact hpW
            have hb1 : Below w.heap.size w W1 := by rw [hW1]; exact hbW.trans ((below_drew W).mono hbW.size)
            have hE1 := hE.below hb1
            clear hW1 x0 x1 hbx hpW
            simp only [List.take_succ_cons, List.take_zero, List.drop_succ_cons, List.drop_zero]
            repeat (first | go_big_quiet_skip | (go_big_quiet_want; go_big_quiet_op; first | go_big_quiet_on | (refine ⟨_, (isName_is _ _ _ hn).mono fun e w' h => ⟨h.1, h.2.symm⟩, ?_⟩; go_big_quiet_on)))
            refine wpQuiet_nil ?_
            cases q2 with
            | true =>
              go_wp2_with (go_at_call 119; refine (fieldValue_is _ hE1 _ hzv _ hfv).mono ?_; rintro e w1 ⟨rfl, hb2⟩)
              go_round
              case rel => exact ⟨1, by omega, rfl, Lib.hid (allN_up HA.out hfl.out), hb1.trans (hb2.mono hb1.size)⟩
              case measure => simp [intOf]; omega
            | false =>
              have HF : Hid (flsB fs = false) := Lib.hid (by rw [HR.out]; exact allN_no hlt hfl.out)
              go_wp2_with (go_at_call 119; refine (fieldValue_is _ hE1 _ hzv _ hfv).mono ?_; rintro e w1 ⟨rfl, hb2⟩)
              go_ret
              exact ⟨by rw [HF.out]; rfl, hb1.trans (hb2.mono hb1.size)⟩
          · obtain ⟨hpb, hpo, hla⟩ := hpk h0
            rw [hpb, hpo] at hpW
            have g3 := g2 h0
            have g4 : decide ((0 : Int) < k) = true := decide_eq_true (by omega)
            have g7 : decide (0 < k) = true := decide_eq_true (by omega)
            have g5 : (0 : Int) ≤ (k : Int) - 1 := by omega
            have g6 : (k : Int) - 1 < fs.length := by omega
            cases hlt' : Op.bytesLess la.toList nm.toList with
            | true =>
              have hfl := Lib.hid (hout (.inr hlt'))
              clear hout hpk hp g2 hpb hpo
              go_wp2_with fail
              rw [hbxe] at hbx x0 x1
              generalize wr.alloc (.cells #[.string nm, .string vl] 154) = W at hbW hbx x0 x1 hpW hEW ⊢
              clear hc hc1
              refine tail_quiet 22 (by kernel_rfl) (by kernel_rfl) ?_
              intro W1 hW1
              have y0 : W1.cell? ⟨bx, 0, none⟩ = some (.string nm) := by rw [hW1]; exact x0
              have y1 : W1.cell? ⟨bx, 1, none⟩ = some (.string vl) := by rw [hW1]; exact x1
              have y2 : W1.cell? ⟨b, o + (k - 1) * 2, none⟩ = some (.string la) := by rw [hW1]; exact hpW
              have hb1 : Below w.heap.size w W1 := by rw [hW1]; exact hbW.trans ((below_drew W).mono hbW.size)
              have hE1 := hE.below hb1
              clear hW1 x0 x1 hbx hpW
              simp only [List.take_succ_cons, List.take_zero, List.drop_succ_cons, List.drop_zero]
              repeat (first | go_big_quiet_skip | (go_big_quiet_want; go_big_quiet_op; first | go_big_quiet_on | (refine ⟨_, (isName_is _ _ _ hn).mono fun e w' h => ⟨h.1, h.2.symm⟩, ?_⟩; go_big_quiet_on)))
              refine wpQuiet_nil ?_
              cases q2 with
              | true =>
                go_wp2_with (go_at_call 119; refine (fieldValue_is _ hE1 _ hzv _ hfv).mono ?_; rintro e w1 ⟨rfl, hb2⟩)
                go_round
                case rel => exact ⟨k + 1, by omega, by go_num, Lib.hid (allN_up HA.out hfl.out), hb1.trans (hb2.mono hb1.size)⟩
                case measure => simp [intOf]; omega
              | false =>
                have HF : Hid (flsB fs = false) := Lib.hid (by rw [HR.out]; exact allN_no hlt hfl.out)
                go_wp2_with (go_at_call 119; refine (fieldValue_is _ hE1 _ hzv _ hfv).mono ?_; rintro e w1 ⟨rfl, hb2⟩)
                go_ret
                exact ⟨by rw [HF.out]; rfl, hb1.trans (hb2.mono hb1.size)⟩
            | false =>
              have HF : Hid (flsB fs = false) := Lib.hid (by rw [HR.out]; exact allN_no hlt (by unfold flAt; rw [HS.out, hla, hn]; unfold ltS; rw [hlt', decide_eq_false h0]; rfl))
              clear hout hpk hp g2 hpb hpo
              go_wp2_with fail
              rw [hbxe] at hbx x0 x1
              generalize wr.alloc (.cells #[.string nm, .string vl] 154) = W at hbW hbx x0 x1 hpW hEW ⊢
              clear hc hc1
              go_big_quiet ((go_at_call 107; exact Calls.quiet_of_same ((isName_is _ _ _ hn).mono fun e w' h => ⟨h.1, h.2.symm⟩)))
              go_wp2_with fail
              go_ret
              exact ⟨by rw [HF.out]; rfl, hbW.trans ((drewN_below W _).mono hbW.size)⟩
      · have hk3 : k = fs.length := by omega
        subst hk3
        go_wp2
        go_ret
        exact ⟨by rw [HR.out, HA.out]; rfl, hb⟩
  · have HF : Hid (flsB fs = false) := Lib.hid (by unfold flsB; rw [decide_eq_false hl]; rfl)
    have g1 : decide ((20 : Int) < fs.length) = true := decide_eq_true (by omega)
    go_enter Tryz.func106, Tryz.ntmps106
    go_wp2
    go_ret
    exact ⟨by rw [HF.out]; rfl, Below.refl _ _⟩
end Go.Proofs.YtllhimeffkefiaaGreatDoor
/- impl's tests of nodes and of edges. Condition: none. -/
set_option linter.unusedVariables false
namespace Go.Proofs.YtllhimeffkefiaaGreatDoor
open Go.RowKit Go.Sort

theorem idOk_any (n : Int) (w : World) : Calls Tryz.prog 104 #[.int .i64 n] w (BoolR (okId n) w) := by
  by_cases h1 : 1 ≤ n
  · have g1 : decide (1 ≤ n) = true := decide_eq_true h1
    have HX : Hid (okId n = decide (n ≤ 1000000000000)) := Lib.hid (by unfold okId; by_cases h2 : n ≤ 1000000000000 <;> simp [h1, h2])
    go_enter Tryz.func104, Tryz.ntmps104
    go_wp2
    go_ret
    exact boolR (by rw [HX.out])
  · have g1 : decide (1 ≤ n) = false := decide_eq_false h1
    have HX : Hid (okId n = false) := Lib.hid (by unfold okId; simp; omega)
    go_enter Tryz.func104, Tryz.ntmps104
    go_wp2
    go_ret
    exact boolR (by rw [HX.out])
theorem idOk_is (n : Int) (w : World) (b : Bool) (h : okId n = b) : Calls Tryz.prog 104 #[.int .i64 n] w (BoolR b w) := h ▸ idOk_any n w
def ndB (x : Nd) : Bool := okId x.id && risB 10 x.labels && flsB x.fields
def edB (x : Ed) : Bool := okId x.id && nameB x.type && okId x.src && okId x.dst && flsB x.fields
theorem rising_is (w : World) (S : Nat → Prop) (v : Value) (ns : List ByteArray) (b : Bool) (hb : risB 10 ns = b) (h : RStr w S v ns) : Calls Tryz.prog 105 #[v, .int .i64 10] w (BoolR b w) := hb ▸ risingNames_any w S v ns 10 (by decide) h
theorem fields_is (w : World) (hE : Env w) (S : Nat → Prop) (v : Value) (fs : List Fld) (b : Bool) (hb : flsB fs = b) (h : RFld w S v fs) : Calls Tryz.prog 106 #[v] w (BoolB b w) := hb ▸ fieldsOk_any w hE S v fs h

set_option maxHeartbeats 400000 in
set_option maxRecDepth 100000 in
theorem nodeOk_any (w : World) (hE : Env w) (S : Nat → Prop) (x : Nd) (a1 a2 : Option Addr) (c1 c2 : Nat) (h1 : RStr w S (.slice a1 x.labels.length c1) x.labels) (h2 : RFld w S (.slice a2 x.fields.length c2) x.fields) :
    Calls Tryz.prog 82 #[.agg #[.int .i64 x.id, .slice a1 x.labels.length c1, .slice a2 x.fields.length c2]] w (BoolB (ndB x) w) := by
  obtain ⟨b1, e1⟩ : ∃ b, okId x.id = b := ⟨_, rfl⟩
  obtain ⟨b2, e2⟩ : ∃ b, risB 10 x.labels = b := ⟨_, rfl⟩
  obtain ⟨b3, e3⟩ : ∃ b, flsB x.fields = b := ⟨_, rfl⟩
  have HX : Hid (ndB x = (b1 && b2 && b3)) := Lib.hid (by unfold ndB; rw [e1, e2, e3])
  have hb := (Below.refl _ w).alloc (Nat.le_refl _) (.cells #[.int .i64 x.id, .slice a1 x.labels.length c1, .slice a2 x.fields.length c2] 74)
  have hr1 := h1.below EStr.kept hb
  have hr2 := h2.below EFld.kept hb
  have hE1 := hE.below hb
  cases b1 <;> cases b2
  all_goals
    go_enter Tryz.func82, Tryz.ntmps82
    go_wp2_with (first
      | (go_at_call 104; refine (idOk_is _ _ _ e1).mono ?_; rintro e w' ⟨rfl, rfl⟩)
      | (go_at_call 105; refine (rising_is _ _ _ _ _ e2 hr1).mono ?_; rintro e w' ⟨rfl, rfl⟩)
      | (go_at_call 106; refine (fields_is _ hE1 _ _ _ _ e3 hr2).mono ?_; rintro e w' ⟨rfl, hb3⟩))
    go_ret
  · exact ⟨by rw [HX.out]; rfl, hb⟩
  · exact ⟨by rw [HX.out]; rfl, hb⟩
  · exact ⟨by rw [HX.out]; rfl, hb⟩
  · exact ⟨by rw [HX.out]; rfl, hb.trans (hb3.mono hb.size)⟩
set_option maxHeartbeats 400000 in
set_option maxRecDepth 100000 in
theorem edgeOk_any (w : World) (hE : Env w) (S : Nat → Prop) (x : Ed) (a2 : Option Addr) (c2 : Nat) (h2 : RFld w S (.slice a2 x.fields.length c2) x.fields) :
    Calls Tryz.prog 83 #[.agg #[.int .i64 x.id, .string x.type, .int .i64 x.src, .int .i64 x.dst, .slice a2 x.fields.length c2]] w (BoolB (edB x) w) := by
  obtain ⟨b1, e1⟩ : ∃ b, okId x.id = b := ⟨_, rfl⟩
  obtain ⟨b2, e2⟩ : ∃ b, nameB x.type = b := ⟨_, rfl⟩
  obtain ⟨b3, e3⟩ : ∃ b, okId x.src = b := ⟨_, rfl⟩
  obtain ⟨b4, e4⟩ : ∃ b, okId x.dst = b := ⟨_, rfl⟩
  obtain ⟨b5, e5⟩ : ∃ b, flsB x.fields = b := ⟨_, rfl⟩
  have HX : Hid (edB x = (b1 && b2 && b3 && b4 && b5)) := Lib.hid (by unfold edB; rw [e1, e2, e3, e4, e5])
  have hb := (Below.refl _ w).alloc (Nat.le_refl _) (.cells #[.int .i64 x.id, .string x.type, .int .i64 x.src, .int .i64 x.dst, .slice a2 x.fields.length c2] 122)
  have hr2 := h2.below EFld.kept hb
  have hE1 := hE.below hb
  have t1 : True := trivial
  have t2 : True := trivial
  cases b1
  · go_enter Tryz.func83, Tryz.ntmps83
    go_wp2_with (go_at_call 104; refine (idOk_is _ _ _ e1).mono ?_; rintro e w' ⟨rfl, rfl⟩)
    go_ret
    exact ⟨by rw [HX.out]; rfl, hb⟩
  cases b2
  · go_enter Tryz.func83, Tryz.ntmps83
    go_wp2_with (first
      | (go_at_call 104; refine (idOk_is _ _ _ e1).mono ?_; rintro e w' ⟨rfl, rfl⟩)
      | (go_at_call 107; refine (isName_is _ _ _ e2).mono ?_; rintro e w' ⟨rfl, rfl⟩))
    go_ret
    exact ⟨by rw [HX.out]; rfl, hb⟩
  cases b3
  · go_enter Tryz.func83, Tryz.ntmps83
    go_wp2_with (first
      | (go_at_call 104; clear t1; refine (idOk_is _ _ _ e1).mono ?_; rintro e w' ⟨rfl, rfl⟩)
      | (go_at_call 107; refine (isName_is _ _ _ e2).mono ?_; rintro e w' ⟨rfl, rfl⟩)
      | (go_at_call 104; refine (idOk_is _ _ _ e3).mono ?_; rintro e w' ⟨rfl, rfl⟩))
    go_ret
    exact ⟨by rw [HX.out]; rfl, hb⟩
  cases b4
  · go_enter Tryz.func83, Tryz.ntmps83
    go_wp2_with (first
      | (go_at_call 104; clear t1; refine (idOk_is _ _ _ e1).mono ?_; rintro e w' ⟨rfl, rfl⟩)
      | (go_at_call 107; refine (isName_is _ _ _ e2).mono ?_; rintro e w' ⟨rfl, rfl⟩)
      | (go_at_call 104; clear t2; refine (idOk_is _ _ _ e3).mono ?_; rintro e w' ⟨rfl, rfl⟩)
      | (go_at_call 104; refine (idOk_is _ _ _ e4).mono ?_; rintro e w' ⟨rfl, rfl⟩))
    go_ret
    exact ⟨by rw [HX.out]; rfl, hb⟩
  · go_enter Tryz.func83, Tryz.ntmps83
    go_wp2_with (first
      | (go_at_call 104; clear t1; refine (idOk_is _ _ _ e1).mono ?_; rintro e w' ⟨rfl, rfl⟩)
      | (go_at_call 107; refine (isName_is _ _ _ e2).mono ?_; rintro e w' ⟨rfl, rfl⟩)
      | (go_at_call 104; clear t2; refine (idOk_is _ _ _ e3).mono ?_; rintro e w' ⟨rfl, rfl⟩)
      | (go_at_call 104; refine (idOk_is _ _ _ e4).mono ?_; rintro e w' ⟨rfl, rfl⟩)
      | (go_at_call 106; refine (fields_is _ hE1 _ _ _ _ e5 hr2).mono ?_; rintro e w' ⟨rfl, hb3⟩))
    go_ret
    exact ⟨by rw [HX.out]; rfl, hb.trans (hb3.mono hb.size)⟩
end Go.Proofs.YtllhimeffkefiaaGreatDoor
/- A map of the call's own from whole numbers to whole numbers, as a function. No condition. -/
namespace Go.Proofs.YtllhimeffkefiaaGreatDoor
open Go.RowKit
open Go.Maps (Keyed)

theorem kmap2 : Keyed Tryz.prog 2 := Go.Maps.int_keyed Tryz.underlying2
def I64 (n : Int) : Prop := -9223372036854775808 ≤ n ∧ n ≤ 9223372036854775807
theorem I64.wf {n : Int} (h : I64 n) : (Lit.int .i64 n).wf = true := by
  obtain ⟨h0, h1⟩ := h
  show (decide (-9223372036854775808 ≤ n) && decide (n ≤ 9223372036854775807)) = true
  rw [decide_eq_true h0, decide_eq_true h1]; rfl
theorem key2 {n : Int} (h : I64 n) : keyOf Tryz.prog 2 (.int .i64 n) = some (.int .i64 n) := Go.Maps.keyOf_int_mk Tryz.underlying2 h.wf
/-- block b is a map (elements of type E) that holds f; what it has not is 0 -/
def MapI (E : TypeId) (w : World) (b n : Nat) (f : Int → Int) : Prop := ∃ D : DataW Unit, w.ownsMap Tryz.prog 2 (plainElem Tryz.prog E) b n D ∧ Maps.IsMap D ∧ ∀ id, D.atKey (.int .i64 id) (.lit (.int .i64 0)) = .lit (.int .i64 (f id))
theorem MapI.made (E : TypeId) (w : World) : MapI E (w.alloc (.map #[] 0)) w.heap.size 0 (fun _ => 0) := ⟨.map [], World.ownsMap_made w _ _ _, Maps.isMap_empty, fun _ => rfl⟩
theorem MapI.lt {E : TypeId} {w : World} {b n : Nat} {f : Int → Int} (h : MapI E w b n f) : b < w.heap.size := h.elim fun _ h => h.1.lt
theorem MapI.below {E : TypeId} {w w' : World} {b n : Nat} {f : Int → Int} (h : MapI E w b n f) (hb : w'.heap[b]? = w.heap[b]?) : MapI E w' b n f := by
  obtain ⟨D, ⟨es, clock, h1, h2⟩, h3⟩ := h
  exact ⟨D, ⟨es, clock, hb.trans h1, h2⟩, h3⟩
theorem MapI.mono {E : TypeId} {w : World} {b n m : Nat} {f : Int → Int} (h : MapI E w b n f) (hn : n ≤ m) : MapI E w b m f := by
  obtain ⟨D, h1, h2⟩ := h
  exact ⟨D, h1.mono hn, h2⟩
theorem keyLit (n : Int) : WideAt.IsKeyLit (.int .i64 n) := by simp [WideAt.IsKeyLit]
/-- m[id] -/
theorem MapI.look {E T : TypeId} (ht : Tryz.prog.underlying T = some (.map 2 E)) (he : Tryz.prog.underlying E = some (.int .i64)) {w : World} {b n : Nat} {f : Int → Int} (h : MapI E w b n f) (hz : (zeroValue E).run Tryz.prog w = .ok (.int .i64 0) w) {id : Int} (hi : I64 id) :
    (Instr.lookup T (.map (some b)) (.int .i64 id) false).run Tryz.prog w = .ok (.int .i64 (f id)) w := by
  obtain ⟨D, h1, _, h2⟩ := h
  obtain ⟨c, hr, hc, _⟩ := h1.lookup_int kmap2 ht he hz (key2 hi)
  rw [h2 id] at hc
  cases hc
  exact hr
def upd (f : Int → Int) (i x : Int) : Int → Int := fun j => if j = i then x else f j
/-- m[id] = x -/
theorem MapI.put {E T : TypeId} (ht : Tryz.prog.underlying T = some (.map 2 E)) (he : Tryz.prog.underlying E = some (.int .i64)) {w : World} {b n : Nat} {f : Int → Int} (h : MapI E w b n f) (hn : n < 1048576) {id x : Int} (hi : I64 id) (hx : I64 x) :
    ∃ w', (Instr.mapUpdate T (.map (some b)) (.int .i64 id) (.int .i64 x)).run Tryz.prog w = .ok () w' ∧ MapI E w' b (n + 1) (upd f id x) ∧ w.grownBy w' (some b) := by
  obtain ⟨D, h1, hm, h2⟩ := h
  obtain ⟨w', hr, ho, hg⟩ := h1.update kmap2 ht (by unfold maxLen; omega) (key2 hi) (plainElem_int he hx.wf)
  refine ⟨w', hr, ⟨_, ho, hm.put _ _, fun j => ?_⟩, hg⟩
  show _ = DataW.lit (Lit.int .i64 (if j = id then x else f j))
  by_cases hj : j = id
  · subst hj
    rw [if_pos rfl, Maps.atKey_put_same hm (keyLit _)]
  · rw [if_neg hj, Maps.atKey_put_other (fun e => hj (by injection e)), h2]
end Go.Proofs.YtllhimeffkefiaaGreatDoor
