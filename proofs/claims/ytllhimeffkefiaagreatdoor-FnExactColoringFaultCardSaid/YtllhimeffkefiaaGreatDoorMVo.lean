/- Texts of one proof, joined in their order: each bears its own word of what it holds and on what condition. -/
import Derived.Test.YtllhimeffkefiaaGreatDoorMVn
set_option linter.unusedVariables false
set_option linter.unusedSimpArgs false
/- impl's reading of values. Condition: texts of at most 2^20 bytes. -/
set_option linter.unusedVariables false
set_option linter.unusedSimpArgs false
namespace Go.Proofs.YtllhimeffkefiaaGreatDoor
open Go.RowKit Go.Sort

theorem valR_pass {r : Nat} {t : ByteArray} {w w0 w3 : World} {i j : Nat} {k n m : Int} {s : ByteArray} {a1 a2 : Option Addr} {l1 l2 c1 c2 : Nat} {g : Nat → Value} {x : Val} {p q : Option (Val × Nat)} (h : Rs w r t i) (ht0 : To r w w0) (hz : w.heap.size < w0.heap.size)
    (hE : EV 4 5 w3 (fun b => w0.heap.size ≤ b) g x) (hg : c6 g = [.int .i64 k, .int .i64 n, .int .i64 m, .string s, .slice a1 l1 c1, .slice a2 l2 c2]) (hr : Rs w3 r t j) (ht : To r w0 w3) (hpq : q = p) (hp : ∀ y k', q = some (y, k') → x = y ∧ j = k') :
    ValR r t q w (.returned (.tuple #[.agg #[.int .i64 k, .int .i64 n, .int .i64 m, .string s, .slice a1 l1 c1, .slice a2 l2 c2], .bool p.isSome])) (sets w3 w.heap.size 0 [.int .i64 k, .int .i64 n, .int .i64 m, .string s, .slice a1 l1 c1, .slice a2 l2 c2]) := by
  refine ⟨_, x, j, by rw [hpq], ⟨g, ?_, ?_⟩, h.sets (Nat.le_refl _) _ _ hr, To.sets (Nat.le_refl _) _ _ (ht0.trans ht), hp⟩
  · simp only [c6, List.cons.injEq] at hg
    obtain ⟨h0, h1, h2, h3, h4, h5, _⟩ := hg
    rw [h0, h1, h2, h3, h4, h5]
  · exact EV_mono 4 5 (fun b hb => by omega) x g (EV_kept 4 5 (fun b hb _ => sets_heap _ _ _ _ b (by omega)) x g hE)
theorem map_pair {α : Type} {p : Option (α × Nat)} {n : α} {j : Nat} (F : α → Val) (h : ∀ y k, p = some (y, k) → n = y ∧ j = k) : ∀ y k', (p.map fun q => (F q.1, q.2)) = some (y, k') → F n = y ∧ j = k' := by
  intro y k' he
  cases p with
  | none => cases he
  | some q =>
    obtain ⟨a, b⟩ := q
    cases he
    obtain ⟨rfl, rfl⟩ := h a b rfl
    exact ⟨rfl, rfl⟩
theorem map_num {p : Option Int} {j : Nat} : ∀ y k', (p.map fun v => (flat 2 v 0 e0, j)) = some (y, k') → flat 2 (p.getD 0) 0 e0 = y ∧ j = k' := by
  intro y k' he
  cases p with
  | none => cases he
  | some v => cases he; exact ⟨rfl, rfl⟩

set_option maxHeartbeats 16000000 in
set_option maxRecDepth 100000 in
theorem valueB_any (d : Int) (L M : Par) (hL : ∀ (w : World) (r : Nat) (t : ByteArray) (i : Nat), Rs w r t i → byI t i = 91 → Calls Tryz.prog 162 #[.pointer (some ⟨r, 0, none⟩), .int .i64 d] w (ValR r t (L t i) w))
    (hM : ∀ (w : World) (r : Nat) (t : ByteArray) (i : Nat), Rs w r t i → byI t i = 123 → Calls Tryz.prog 163 #[.pointer (some ⟨r, 0, none⟩), .int .i64 d] w (ValR r t (M t i) w)) : VOk (fun t i => pValB (L t i) (M t i) t i) d := by
  intro w r t i h
  have hlt := h.lt
  have hne : w.heap.size ≠ r := by omega
  have h0 := h.below ((Below.refl _ w).alloc (Nat.le_refl _) (boxT 0))
  have ha := To.alloc r w (boxT 0)
  have B4 : Box (w.alloc (boxT 0)) w.heap.size (.int .i64 0) (.int .i64 0) (.int .i64 0) (.string ⟨#[]⟩) (.slice none 0 0) (.slice none 0 0) := Box.alloc w _ _ _ _ _ _ _
  obtain ⟨x, hx⟩ : ∃ x, byI t i = x := ⟨_, rfl⟩
  have HX := Lib.hid hx
  clear hx
  by_cases h34 : x = 34
  · have HP : Hid (pValB (L t i) (M t i) t i = (pQuo t i).map fun p => (flat 3 0 0 p.1, p.2)) := Lib.hid (by unfold pValB; rw [HX.out, if_pos h34])
    have HI : Hid (byI t i = 34) := Lib.hid (by rw [HX.out, h34])
    have y34 : (x == 34) = true := by simpa using h34
    have tk0 : True := trivial
    have tk1 : True := trivial
    have tk2 : True := trivial
    go_enter Tryz.func146, Tryz.ntmps146
    go_wp2_with (first
      | (go_at_call 157; refine (peek_any _ r t i h0).mono ?_; rintro e w1 ⟨he, hb1⟩; rw [HX.out] at he; subst he; have hr1 := h0.below hb1; have ht1 := ha.trans (To.of (r := r) hb1); have B1 := B4.to (To.of (r := r) hb1) hne)
      | (go_at_call 158; refine (quoted_any _ r t i hr1 HI.out).mono ?_; rintro e w2 ⟨s, j, rfl, hr2, ht2, hp2⟩; obtain ⟨p0, p1, p2, p3, p4, p5, pf⟩ := B1.to ht2 hne))
    exact bodyPost_ret (v := .tuple #[.agg #[.int .i64 3, .int .i64 0, .int .i64 0, .string s, .slice none 0 0, .slice none 0 0], .bool (pQuo t i).isSome]) (by simp [results, Tryz.results146, go_sem, p0, p1, p2, p3, p4, p5]) rfl
      (valR_flat h hr2 (ht1.trans ht2) (by rw [HP.out]; simp) (fun y k' hy => by rw [HP.out] at hy; exact map_pair (fun q => flat 3 0 0 q) hp2 y k' hy) [.int .i64 3, .int .i64 0, .int .i64 0, .string s, .slice none 0 0, .slice none 0 0])
  have n34 : (x == 34) = false := by simpa using h34
  by_cases h64 : x = 64
  · have HP : Hid (pValB (L t i) (M t i) t i = (pDate t i).map fun p => (flat 4 p.1 0 e0, p.2)) := Lib.hid (by unfold pValB; rw [HX.out, if_neg h34, if_pos h64])
    have HI : Hid (byI t i = 64) := Lib.hid (by rw [HX.out, h64])
    have y64 : (x == 64) = true := by simpa using h64
    have tk0 : True := trivial
    have tk1 : True := trivial
    have tk2 : True := trivial
    go_enter Tryz.func146, Tryz.ntmps146
    go_wp2_with (first
      | (go_at_call 157; refine (peek_any _ r t i h0).mono ?_; rintro e w1 ⟨he, hb1⟩; rw [HX.out] at he; subst he; have hr1 := h0.below hb1; have ht1 := ha.trans (To.of (r := r) hb1); have B1 := B4.to (To.of (r := r) hb1) hne)
      | (go_at_call 159; refine (date_any _ r t i hr1 HI.out).mono ?_; rintro e w2 ⟨n, j, rfl, hr2, ht2, hp2⟩; obtain ⟨p0, p1, p2, p3, p4, p5, pf⟩ := B1.to ht2 hne))
    exact bodyPost_ret (v := .tuple #[.agg #[.int .i64 4, .int .i64 n, .int .i64 0, .string ⟨#[]⟩, .slice none 0 0, .slice none 0 0], .bool (pDate t i).isSome]) (by simp [results, Tryz.results146, go_sem, p0, p1, p2, p3, p4, p5]) rfl
      (valR_flat h hr2 (ht1.trans ht2) (by rw [HP.out]; simp) (fun y k' hy => by rw [HP.out] at hy; exact map_pair (fun q => flat 4 q 0 e0) hp2 y k' hy) [.int .i64 4, .int .i64 n, .int .i64 0, .string ⟨#[]⟩, .slice none 0 0, .slice none 0 0])
  have n64 : (x == 64) = false := by simpa using h64
  by_cases hn : x = 45 ∨ digB x = true
  · have HP : Hid (pValB (L t i) (M t i) t i = (pNum t i).map fun v => (flat 2 v 0 e0, numEnd t i)) := Lib.hid (by unfold pValB; rw [HX.out, if_neg h34, if_neg h64, if_pos hn])
    rcases (show (x == 45) = true ∨ ((x == 45) = false ∧ digB x = true) by
      cases q : (x == 45) with
      | true => exact .inl rfl
      | false => exact .inr ⟨rfl, hn.resolve_left (by simpa using q)⟩) with y45 | ⟨y45, hdg⟩
    all_goals
      have tk0 : True := trivial
      have tk1 : True := trivial
      have tk2 : True := trivial
      go_enter Tryz.func146, Tryz.ntmps146
      go_wp2_with (first
        | (go_at_call 157; refine (peek_any _ r t i h0).mono ?_; rintro e w1 ⟨he, hb1⟩; rw [HX.out] at he; subst he; have hr1 := h0.below hb1; have ht1 := ha.trans (To.of (r := r) hb1); have B1 := B4.to (To.of (r := r) hb1) hne)
        | (go_at_call 121; refine (isDigit_is _ _ _ hdg).mono ?_; rintro e w' ⟨rfl, rfl⟩)
        | (go_at_call 160; refine (whole_any _ r t i hr1).mono ?_; rintro e w2 ⟨rfl, hr2, ht2⟩; obtain ⟨p0, p1, p2, p3, p4, p5, pf⟩ := B1.to ht2 hne))
      exact bodyPost_ret (v := .tuple #[.agg #[.int .i64 2, .int .i64 ((pNum t i).getD 0), .int .i64 0, .string ⟨#[]⟩, .slice none 0 0, .slice none 0 0], .bool (pNum t i).isSome]) (by simp [results, Tryz.results146, go_sem, p0, p1, p2, p3, p4, p5]) rfl
        (valR_flat h hr2 (ht1.trans ht2) (by rw [HP.out]; simp) (fun y k' hy => by rw [HP.out] at hy; exact map_num y k' hy) [.int .i64 2, .int .i64 ((pNum t i).getD 0), .int .i64 0, .string ⟨#[]⟩, .slice none 0 0, .slice none 0 0])
  have n45 : (x == 45) = false := by
    cases q : (x == 45) with
    | false => rfl
    | true => exact absurd (.inl (by simpa using q)) hn
  have hdg : digB x = false := by
    cases q : digB x with
    | false => rfl
    | true => exact absurd (.inr q) hn
  by_cases h40 : x = 40
  · have HP : Hid (pValB (L t i) (M t i) t i = pPoint t i) := Lib.hid (by unfold pValB; rw [HX.out, if_neg h34, if_neg h64, if_neg hn, if_pos h40])
    have HI : Hid (byI t i = 40) := Lib.hid (by rw [HX.out, h40])
    have y40 : (x == 40) = true := by simpa using h40
    have tk0 : True := trivial
    have tk1 : True := trivial
    have tk2 : True := trivial
    go_enter Tryz.func146, Tryz.ntmps146
    go_wp2_with (first
      | (go_at_call 157; refine (peek_any _ r t i h0).mono ?_; rintro e w1 ⟨he, hb1⟩; rw [HX.out] at he; subst he; have hr1 := h0.below hb1; have ht1 := ha.trans (To.of (r := r) hb1); have B1 := B4.to (To.of (r := r) hb1) hne)
      | (go_at_call 121; refine (isDigit_is _ _ false (by first | exact hdg | rfl)).mono ?_; rintro e w' ⟨rfl, rfl⟩)
      | (go_at_call 161; refine (point_any _ r t i hr1 HI.out).mono ?_; rintro e w2 ⟨vv, xx, j, rfl, hVI, hr2, ht2, hp2⟩; obtain ⟨k', n', m', s', a1, l1, c1', a2, l2, c2', g, rfl, hg, hEV⟩ := hVI.lits; have hz1 := B1.lt; obtain ⟨p0, p1, p2, p3, p4, p5, pf⟩ := B1.to ht2 hne))
    exact bodyPost_ret (v := .tuple #[.agg #[.int .i64 k', .int .i64 n', .int .i64 m', .string s', .slice a1 l1 c1', .slice a2 l2 c2'], .bool (pPoint t i).isSome]) (by simp [results, Tryz.results146, go_sem, p0, p1, p2, p3, p4, p5]) rfl
      (valR_pass h ht1 hz1 hEV hg hr2 ht2 (by rw [HP.out]) (fun y k' hy => by rw [HP.out] at hy; exact hp2 y k' hy))
  have n40 : (x == 40) = false := by simpa using h40
  by_cases h91 : x = 91
  · have HP : Hid (pValB (L t i) (M t i) t i = L t i) := Lib.hid (by unfold pValB; rw [HX.out, if_neg h34, if_neg h64, if_neg hn, if_neg h40, if_pos h91])
    have HI : Hid (byI t i = 91) := Lib.hid (by rw [HX.out, h91])
    have y91 : (x == 91) = true := by simpa using h91
    have tk0 : True := trivial
    have tk1 : True := trivial
    have tk2 : True := trivial
    go_enter Tryz.func146, Tryz.ntmps146
    go_wp2_with (first
      | (go_at_call 157; refine (peek_any _ r t i h0).mono ?_; rintro e w1 ⟨he, hb1⟩; rw [HX.out] at he; subst he; have hr1 := h0.below hb1; have ht1 := ha.trans (To.of (r := r) hb1); have B1 := B4.to (To.of (r := r) hb1) hne)
      | (go_at_call 121; refine (isDigit_is _ _ false (by first | exact hdg | rfl)).mono ?_; rintro e w' ⟨rfl, rfl⟩)
      | (go_at_call 162; refine (hL _ r t i hr1 HI.out).mono ?_; rintro e w2 ⟨vv, xx, j, rfl, hVI, hr2, ht2, hp2⟩; obtain ⟨k', n', m', s', a1, l1, c1', a2, l2, c2', g, rfl, hg, hEV⟩ := hVI.lits; have hz1 := B1.lt; obtain ⟨p0, p1, p2, p3, p4, p5, pf⟩ := B1.to ht2 hne))
    exact bodyPost_ret (v := .tuple #[.agg #[.int .i64 k', .int .i64 n', .int .i64 m', .string s', .slice a1 l1 c1', .slice a2 l2 c2'], .bool (L t i).isSome]) (by simp [results, Tryz.results146, go_sem, p0, p1, p2, p3, p4, p5]) rfl
      (valR_pass h ht1 hz1 hEV hg hr2 ht2 (by rw [HP.out]) (fun y k' hy => by rw [HP.out] at hy; exact hp2 y k' hy))
  have n91 : (x == 91) = false := by simpa using h91
  by_cases h123 : x = 123
  · have HP : Hid (pValB (L t i) (M t i) t i = M t i) := Lib.hid (by unfold pValB; rw [HX.out, if_neg h34, if_neg h64, if_neg hn, if_neg h40, if_neg h91, if_pos h123])
    have HI : Hid (byI t i = 123) := Lib.hid (by rw [HX.out, h123])
    have y123 : (x == 123) = true := by simpa using h123
    have tk0 : True := trivial
    have tk1 : True := trivial
    have tk2 : True := trivial
    go_enter Tryz.func146, Tryz.ntmps146
    go_wp2_with (first
      | (go_at_call 157; refine (peek_any _ r t i h0).mono ?_; rintro e w1 ⟨he, hb1⟩; rw [HX.out] at he; subst he; have hr1 := h0.below hb1; have ht1 := ha.trans (To.of (r := r) hb1); have B1 := B4.to (To.of (r := r) hb1) hne)
      | (go_at_call 121; refine (isDigit_is _ _ false (by first | exact hdg | rfl)).mono ?_; rintro e w' ⟨rfl, rfl⟩)
      | (go_at_call 163; refine (hM _ r t i hr1 HI.out).mono ?_; rintro e w2 ⟨vv, xx, j, rfl, hVI, hr2, ht2, hp2⟩; obtain ⟨k', n', m', s', a1, l1, c1', a2, l2, c2', g, rfl, hg, hEV⟩ := hVI.lits; have hz1 := B1.lt; obtain ⟨p0, p1, p2, p3, p4, p5, pf⟩ := B1.to ht2 hne))
    exact bodyPost_ret (v := .tuple #[.agg #[.int .i64 k', .int .i64 n', .int .i64 m', .string s', .slice a1 l1 c1', .slice a2 l2 c2'], .bool (M t i).isSome]) (by simp [results, Tryz.results146, go_sem, p0, p1, p2, p3, p4, p5]) rfl
      (valR_pass h ht1 hz1 hEV hg hr2 ht2 (by rw [HP.out]) (fun y k' hy => by rw [HP.out] at hy; exact hp2 y k' hy))
  have n123 : (x == 123) = false := by simpa using h123
  by_cases h60 : x = 60
  · have HP : Hid (pValB (L t i) (M t i) t i = pPath t i) := Lib.hid (by unfold pValB; rw [HX.out, if_neg h34, if_neg h64, if_neg hn, if_neg h40, if_neg h91, if_neg h123, if_pos h60])
    have HI : Hid (byI t i = 60) := Lib.hid (by rw [HX.out, h60])
    have y60 : (x == 60) = true := by simpa using h60
    have tk0 : True := trivial
    have tk1 : True := trivial
    have tk2 : True := trivial
    go_enter Tryz.func146, Tryz.ntmps146
    go_wp2_with (first
      | (go_at_call 157; refine (peek_any _ r t i h0).mono ?_; rintro e w1 ⟨he, hb1⟩; rw [HX.out] at he; subst he; have hr1 := h0.below hb1; have ht1 := ha.trans (To.of (r := r) hb1); have B1 := B4.to (To.of (r := r) hb1) hne)
      | (go_at_call 121; refine (isDigit_is _ _ false (by first | exact hdg | rfl)).mono ?_; rintro e w' ⟨rfl, rfl⟩)
      | (go_at_call 164; refine (path_any _ r t i hr1 HI.out).mono ?_; rintro e w2 ⟨vv, xx, j, rfl, hVI, hr2, ht2, hp2⟩; obtain ⟨k', n', m', s', a1, l1, c1', a2, l2, c2', g, rfl, hg, hEV⟩ := hVI.lits; have hz1 := B1.lt; obtain ⟨p0, p1, p2, p3, p4, p5, pf⟩ := B1.to ht2 hne))
    exact bodyPost_ret (v := .tuple #[.agg #[.int .i64 k', .int .i64 n', .int .i64 m', .string s', .slice a1 l1 c1', .slice a2 l2 c2'], .bool (pPath t i).isSome]) (by simp [results, Tryz.results146, go_sem, p0, p1, p2, p3, p4, p5]) rfl
      (valR_pass h ht1 hz1 hEV hg hr2 ht2 (by rw [HP.out]) (fun y k' hy => by rw [HP.out] at hy; exact hp2 y k' hy))
  have n60 : (x == 60) = false := by simpa using h60
  by_cases g0 : begB t i tNull = true
  · have HP : Hid (pValB (L t i) (M t i) t i = some (flat 0 0 0 e0, i + 4)) := Lib.hid (by unfold pValB; rw [HX.out, if_neg h34, if_neg h64, if_neg hn, if_neg h40, if_neg h91, if_neg h123, if_neg h60, if_pos g0])
    have BtNull := Lib.hid g0
    have tk0 : True := trivial
    have tk1 : True := trivial
    have tk2 : True := trivial
    go_enter Tryz.func146, Tryz.ntmps146
    go_wp2_with (first
      | (go_at_call 157; refine (peek_any _ r t i h0).mono ?_; rintro e w1 ⟨he, hb1⟩; rw [HX.out] at he; subst he; have hr1 := h0.below hb1; have ht1 := ha.trans (To.of (r := r) hb1); have B1 := B4.to (To.of (r := r) hb1) hne)
      | (go_at_call 121; refine (isDigit_is _ _ false (by first | exact hdg | rfl)).mono ?_; rintro e w' ⟨rfl, rfl⟩)
      | (go_at_call 165; refine (eat_yes _ r t i tNull hr1 BtNull.out).mono ?_; rintro e w9 ⟨rfl, hr9, ht9⟩; obtain ⟨p0, p1, p2, p3, p4, p5, pf⟩ := B1.to ht9 hne))
    exact bodyPost_ret (v := .tuple #[.agg #[.int .i64 0, .int .i64 0, .int .i64 0, .string ⟨#[]⟩, .slice none 0 0, .slice none 0 0], .bool true]) (by simp [results, Tryz.results146, go_sem, p0, p1, p2, p3, p4, p5]) rfl
      (valR_flat h hr9 (ht1.trans ht9) (by rw [HP.out]; rfl) (fun y k' hy => by rw [HP.out] at hy; cases hy; exact ⟨rfl, rfl⟩) [.int .i64 0, .int .i64 0, .int .i64 0, .string ⟨#[]⟩, .slice none 0 0, .slice none 0 0])
  by_cases g1 : begB t i tTrue = true
  · have HP : Hid (pValB (L t i) (M t i) t i = some (flat 1 1 0 e0, i + 4)) := Lib.hid (by unfold pValB; rw [HX.out, if_neg h34, if_neg h64, if_neg hn, if_neg h40, if_neg h91, if_neg h123, if_neg h60, if_neg g0, if_pos g1])
    have BtNull := Lib.hid (show begB t i tNull = false by simpa using g0)
    have BtTrue := Lib.hid g1
    have tk0 : True := trivial
    have tk1 : True := trivial
    have tk2 : True := trivial
    go_enter Tryz.func146, Tryz.ntmps146
    go_wp2_with (first
      | (go_at_call 157; refine (peek_any _ r t i h0).mono ?_; rintro e w1 ⟨he, hb1⟩; rw [HX.out] at he; subst he; have hr1 := h0.below hb1; have ht1 := ha.trans (To.of (r := r) hb1); have B1 := B4.to (To.of (r := r) hb1) hne)
      | (go_at_call 121; refine (isDigit_is _ _ false (by first | exact hdg | rfl)).mono ?_; rintro e w' ⟨rfl, rfl⟩)
      | (go_at_call 165; clear tk0; refine (eat_no _ r t i tNull hr1 BtNull.out).mono ?_; rintro e w5 ⟨rfl, hr5, ht5⟩; have B5 := B1.to ht5 hne)
      | (go_at_call 165; refine (eat_yes _ r t i tTrue hr5 BtTrue.out).mono ?_; rintro e w9 ⟨rfl, hr9, ht9⟩; obtain ⟨p0, p1, p2, p3, p4, p5, pf⟩ := B5.to ht9 hne))
    exact bodyPost_ret (v := .tuple #[.agg #[.int .i64 1, .int .i64 1, .int .i64 0, .string ⟨#[]⟩, .slice none 0 0, .slice none 0 0], .bool true]) (by simp [results, Tryz.results146, go_sem, p0, p1, p2, p3, p4, p5]) rfl
      (valR_flat h hr9 ((ht1.trans ht5).trans ht9) (by rw [HP.out]; rfl) (fun y k' hy => by rw [HP.out] at hy; cases hy; exact ⟨rfl, rfl⟩) [.int .i64 1, .int .i64 1, .int .i64 0, .string ⟨#[]⟩, .slice none 0 0, .slice none 0 0])
  by_cases g2 : begB t i tFalse = true
  · have HP : Hid (pValB (L t i) (M t i) t i = some (flat 1 0 0 e0, i + 5)) := Lib.hid (by unfold pValB; rw [HX.out, if_neg h34, if_neg h64, if_neg hn, if_neg h40, if_neg h91, if_neg h123, if_neg h60, if_neg g0, if_neg g1, if_pos g2])
    have BtNull := Lib.hid (show begB t i tNull = false by simpa using g0)
    have BtTrue := Lib.hid (show begB t i tTrue = false by simpa using g1)
    have BtFalse := Lib.hid g2
    have tk0 : True := trivial
    have tk1 : True := trivial
    have tk2 : True := trivial
    go_enter Tryz.func146, Tryz.ntmps146
    go_wp2_with (first
      | (go_at_call 157; refine (peek_any _ r t i h0).mono ?_; rintro e w1 ⟨he, hb1⟩; rw [HX.out] at he; subst he; have hr1 := h0.below hb1; have ht1 := ha.trans (To.of (r := r) hb1); have B1 := B4.to (To.of (r := r) hb1) hne)
      | (go_at_call 121; refine (isDigit_is _ _ false (by first | exact hdg | rfl)).mono ?_; rintro e w' ⟨rfl, rfl⟩)
      | (go_at_call 165; clear tk0; refine (eat_no _ r t i tNull hr1 BtNull.out).mono ?_; rintro e w5 ⟨rfl, hr5, ht5⟩; have B5 := B1.to ht5 hne)
      | (go_at_call 165; clear tk1; refine (eat_no _ r t i tTrue hr5 BtTrue.out).mono ?_; rintro e w6 ⟨rfl, hr6, ht6⟩; have B6 := B5.to ht6 hne)
      | (go_at_call 165; refine (eat_yes _ r t i tFalse hr6 BtFalse.out).mono ?_; rintro e w9 ⟨rfl, hr9, ht9⟩; obtain ⟨p0, p1, p2, p3, p4, p5, pf⟩ := B6.to ht9 hne))
    exact bodyPost_ret (v := .tuple #[.agg #[.int .i64 1, .int .i64 0, .int .i64 0, .string ⟨#[]⟩, .slice none 0 0, .slice none 0 0], .bool true]) (by simp [results, Tryz.results146, go_sem, p0, p1, p2, p3, p4, p5]) rfl
      (valR_flat h hr9 (((ht1.trans ht5).trans ht6).trans ht9) (by rw [HP.out]; rfl) (fun y k' hy => by rw [HP.out] at hy; cases hy; exact ⟨rfl, rfl⟩) [.int .i64 1, .int .i64 0, .int .i64 0, .string ⟨#[]⟩, .slice none 0 0, .slice none 0 0])
  have HP : Hid (pValB (L t i) (M t i) t i = pThing t i) := Lib.hid (by unfold pValB; rw [HX.out, if_neg h34, if_neg h64, if_neg hn, if_neg h40, if_neg h91, if_neg h123, if_neg h60, if_neg g0, if_neg g1, if_neg g2])
  have BtNull := Lib.hid (show begB t i tNull = false by simpa using g0)
  have BtTrue := Lib.hid (show begB t i tTrue = false by simpa using g1)
  have BtFalse := Lib.hid (show begB t i tFalse = false by simpa using g2)
  rcases (show x = 110 ∨ (x ≠ 110 ∧ x = 101) ∨ (x ≠ 110 ∧ x ≠ 101) by omega) with q1 | ⟨q1, q2⟩ | ⟨q1, q2⟩
  rotate_left 2
  · have m1 : (x == 110) = false := by simpa using q1
    have m2 : (x == 101) = false := by simpa using q2
    have HT : Hid (pThing t i = none) := Lib.hid (by unfold pThing; rw [HX.out, if_neg q2, if_neg q1])
    clear q1 q2
    have tk0 : True := trivial
    have tk1 : True := trivial
    have tk2 : True := trivial
    go_enter Tryz.func146, Tryz.ntmps146
    go_wp2_with (first
      | (go_at_call 157; refine (peek_any _ r t i h0).mono ?_; rintro e w1 ⟨he, hb1⟩; rw [HX.out] at he; subst he; have hr1 := h0.below hb1; have ht1 := ha.trans (To.of (r := r) hb1); have B1 := B4.to (To.of (r := r) hb1) hne)
      | (go_at_call 121; refine (isDigit_is _ _ false (by first | exact hdg | rfl)).mono ?_; rintro e w' ⟨rfl, rfl⟩)
      | (go_at_call 165; clear tk0; refine (eat_no _ r t i tNull hr1 BtNull.out).mono ?_; rintro e w5 ⟨rfl, hr5, ht5⟩; have B5 := B1.to ht5 hne)
      | (go_at_call 165; clear tk1; refine (eat_no _ r t i tTrue hr5 BtTrue.out).mono ?_; rintro e w6 ⟨rfl, hr6, ht6⟩; have B6 := B5.to ht6 hne)
      | (go_at_call 165; clear tk2; refine (eat_no _ r t i tFalse hr6 BtFalse.out).mono ?_; rintro e w7 ⟨rfl, hr7, ht7⟩; obtain ⟨p0, p1, p2, p3, p4, p5, pf⟩ := B6.to ht7 hne))
    exact bodyPost_ret (v := .tuple #[.agg #[.int .i64 0, .int .i64 0, .int .i64 0, .string ⟨#[]⟩, .slice none 0 0, .slice none 0 0], .bool false]) (by simp [results, Tryz.results146, go_sem, p0, p1, p2, p3, p4, p5]) rfl
      (valR_flat h hr7 (((ht1.trans ht5).trans ht6).trans ht7) (by rw [HP.out, HT.out]; rfl) (fun y k' hy => by rw [HP.out, HT.out] at hy; cases hy) [.int .i64 0, .int .i64 0, .int .i64 0, .string ⟨#[]⟩, .slice none 0 0, .slice none 0 0])
  all_goals
    have m1 : (x == 110) = decide (x = 110) := by rw [Bool.eq_iff_iff]; simp
    have m2 : (x == 101) = decide (x = 101) := by rw [Bool.eq_iff_iff]; simp
    first
      | rw [decide_eq_true q1] at m1
      | rw [decide_eq_false q1] at m1
    try rw [decide_eq_true q2] at m2
    try clear q2
    clear q1
    have tk0 : True := trivial
    have tk1 : True := trivial
    have tk2 : True := trivial
    go_enter Tryz.func146, Tryz.ntmps146
    go_wp2_with (first
      | (go_at_call 157; refine (peek_any _ r t i h0).mono ?_; rintro e w1 ⟨he, hb1⟩; rw [HX.out] at he; subst he; have hr1 := h0.below hb1; have ht1 := ha.trans (To.of (r := r) hb1); have B1 := B4.to (To.of (r := r) hb1) hne)
      | (go_at_call 121; refine (isDigit_is _ _ false (by first | exact hdg | rfl)).mono ?_; rintro e w' ⟨rfl, rfl⟩)
      | (go_at_call 165; clear tk0; refine (eat_no _ r t i tNull hr1 BtNull.out).mono ?_; rintro e w5 ⟨rfl, hr5, ht5⟩; have B5 := B1.to ht5 hne)
      | (go_at_call 165; clear tk1; refine (eat_no _ r t i tTrue hr5 BtTrue.out).mono ?_; rintro e w6 ⟨rfl, hr6, ht6⟩; have B6 := B5.to ht6 hne)
      | (go_at_call 165; clear tk2; refine (eat_no _ r t i tFalse hr6 BtFalse.out).mono ?_; rintro e w7 ⟨rfl, hr7, ht7⟩; have B7 := B6.to ht7 hne)
      | (go_at_call 166; refine (thing_any _ r t i hr7).mono ?_; rintro e w2 ⟨vv, xx, j, rfl, hVI, hr2, ht2, hp2⟩; obtain ⟨k', n', m', s', a1, l1, c1', a2, l2, c2', g, rfl, hg, hEV⟩ := hVI.lits; have hz1 := B7.lt; obtain ⟨p0, p1, p2, p3, p4, p5, pf⟩ := B7.to ht2 hne))
    exact bodyPost_ret (v := .tuple #[.agg #[.int .i64 k', .int .i64 n', .int .i64 m', .string s', .slice a1 l1 c1', .slice a2 l2 c2'], .bool (pThing t i).isSome]) (by simp [results, Tryz.results146, go_sem, p0, p1, p2, p3, p4, p5]) rfl
      (valR_pass h (((ht1.trans ht5).trans ht6).trans ht7) hz1 hEV hg hr2 ht2 (by rw [HP.out]) (fun y k' hy => by rw [HP.out] at hy; exact hp2 y k' hy))

end Go.Proofs.YtllhimeffkefiaaGreatDoor
