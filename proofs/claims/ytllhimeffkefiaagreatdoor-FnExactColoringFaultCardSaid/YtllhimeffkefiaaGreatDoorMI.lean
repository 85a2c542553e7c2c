/- Texts of one proof, joined in their order: each bears its own word of what it holds and on what condition. -/
import Derived.Test.YtllhimeffkefiaaGreatDoorMSn
import Derived.Test.YtllhimeffkefiaaGreatDoorME
import Derived.Test.YtllhimeffkefiaaGreatDoorMA
import Derived.Test.YtllhimeffkefiaaGreatDoorMVw
set_option linter.unusedVariables false
set_option linter.unusedSimpArgs false
/- The specification's reading of a text as a value, and its test of values. No condition on the text. -/
set_option linter.unusedVariables false
set_option linter.unusedSimpArgs false
namespace Go.Proofs.YtllhimeffkefiaaGreatDoor
open Go.RowKit Go.Sort

theorem svalue_any : ∀ n : Nat, n ≤ 5 → VSk (pVal n) (5 - n)
  | 0, _ => by
    have := svalueB_any 5 (by omega) (by omega) (fun _ _ => none) (fun _ _ => none) (fun h => absurd h (by omega)) (fun h => absurd h (by omega)) (fun _ t i => ⟨rfl, rfl⟩)
    intro w r t i h
    exact this w r t i h
  | n + 1, hn => by
    have ih := svalue_any n (by omega)
    have e : (5 : Int) - ((n + 1 : Nat) : Int) + 1 = 5 - (n : Int) := by omega
    rw [← e] at ih
    have := svalueB_any (5 - ((n + 1 : Nat) : Int)) (by omega) (by omega) (pList (pVal n)) (pMap (pVal n)) (fun h w r t i hr => slist_any _ (by omega) h _ ih (pVal_fwd n) w r t i hr) (fun h w r t i hr => sfields_any _ (by omega) h _ ih (pVal_fwd n) w r t i hr) (fun h => absurd (by omega) h)
    intro w r t i h
    exact this w r t i h
/-- a text's value, or a failed one -/
def badV : Val := .mk (-1) 0 0 e0 [] []
def SReadR (p : Option Val) (w : World) (e : Ending) (w' : World) : Prop :=
  ∃ v x, e = .returned v ∧ VS w' (fun b => w.heap.size ≤ b) v x ∧ Below w.heap.size w w' ∧ x = p.getD badV
theorem sreadR {w w3 : World} {B : Nat} {g : Nat → Value} {x : Val} {k n m : Int} {s : ByteArray} {a1 a2 : Option Addr} {l1 l2 c1 c2 : Nat} {p : Option Val} {o : Obj} (hb : Below w.heap.size w w3)
    (hE : EV 5 4 w3 (fun b => B ≤ b) g x) (hg : c6 g = [.int .i64 k, .int .i64 n, .int .i64 m, .string s, .slice a1 l1 c1, .slice a2 l2 c2]) (hB : w.heap.size < B) (hp : x = p.getD badV) :
    SReadR p w (.returned (.agg #[.int .i64 k, .int .i64 n, .int .i64 m, .string s, .slice a1 l1 c1, .slice a2 l2 c2])) ((sets w3 w.heap.size 0 [.int .i64 k, .int .i64 n, .int .i64 m, .string s, .slice a1 l1 c1, .slice a2 l2 c2]).alloc o) := by
  have h2 := sets_below (g := w.heap.size) (Nat.le_refl _) [.int .i64 k, .int .i64 n, .int .i64 m, .string s, .slice a1 l1 c1, .slice a2 l2 c2] 0 _ hb
  refine ⟨_, x, rfl, ⟨g, ?_, ?_⟩, h2.alloc h2.size o, hp⟩
  · simp only [c6, List.cons.injEq] at hg
    obtain ⟨h0, h1, h2, h3, h4, h5, _⟩ := hg
    rw [h0, h1, h2, h3, h4, h5]
  · have E1 := EV_kept 5 4 (w' := sets w3 w.heap.size 0 [.int .i64 k, .int .i64 n, .int .i64 m, .string s, .slice a1 l1 c1, .slice a2 l2 c2]) (fun b hb _ => sets_heap _ _ _ _ b (by omega)) x g hE
    exact EV_mono 5 4 (fun b hb => by omega) x g (EV_kept 5 4 (fun b hb hlt => ((Below.refl _ _).alloc (Nat.le_refl _) o).block b hlt) x g E1)
set_option maxHeartbeats 1000000 in
set_option maxRecDepth 100000 in
theorem sread_any (w : World) (t : ByteArray) (hz : Sz t) : Calls Tryz.prog 134 #[.string t] w (SReadR (pRead t) w) := by
  have hv := svalue_any 5 (by omega)
  by_cases hl : t.size ≤ 2000
  · have g1 : decide ((2000 : Int) < t.size) = false := decide_eq_false (by omega)
    have g2 : decide (2000 < t.size) = false := decide_eq_false (by omega)
    have hB : Below w.heap.size w ((w.alloc (boxS 0)).alloc (.cells #[.string t, .int .i64 0, .bool false] 197)) := ((Below.refl _ w).alloc (Nat.le_refl _) _).alloc (by simp) _
    have hn : (w.alloc (boxS 0)).heap.size = w.heap.size + 1 := by simp
    have h0 : Sr ((w.alloc (boxS 0)).alloc (.cells #[.string t, .int .i64 0, .bool false] 197)) (w.heap.size + 1) t 0 false := by
      refine ⟨?_, ?_, ?_, ?_, ?_, Nat.zero_le _, by omega⟩
      iterate 3 rw [← hn, World.cell?_alloc_mark]; rfl
      all_goals rw [← hn, World.frozen?_alloc_mark]; simp
    have B4 : Box ((w.alloc (boxS 0)).alloc (.cells #[.string t, .int .i64 0, .bool false] 197)) w.heap.size (.int .i64 0) (.int .i64 0) (.int .i64 0) (.string ⟨#[]⟩) (.slice none 0 0) (.slice none 0 0) := (Box.alloc w _ _ _ _ _ _ _).to (To.alloc (w.heap.size + 5) _ _) (by omega)
    go_enter Tryz.func134, Tryz.ntmps134
    go_upto_region 5 with (go_at_call 145; refine (hv _ (w.heap.size + 1) t 0 h0).mono ?_; rintro e w3 ⟨vv, x, j, rfl, hVS, hr3, ht3, hval⟩; obtain ⟨k', n', m', s', a1, l1, c1', a2, l2, c2', g, rfl, hg, hEV⟩ := hVS.lits)
    have B3 := B4.to ht3 (by omega)
    have bz := B3.lt
    obtain ⟨p0, p1, p2, p3, p4, p5, pf⟩ := B3
    have q0 := hr3.c0
    have q1 := hr3.c1
    have q2 := hr3.c2
    have rz := hr3.lt
    have hb3 : Below w.heap.size w w3 := hB.trans (ht3.below (by omega) (by simp; omega))
    cases hp : pVal 5 t 0 with
    | none =>
      have HP : Hid (pRead t = none) := Lib.hid (by unfold pRead; rw [if_pos hl, hp]; rfl)
      rw [hp] at q2
      simp only [Option.isNone_none] at q2
      go_wp2_with fail
      exact bodyPost_ret (v := .agg #[.int .i64 (-1), .int .i64 0, .int .i64 0, .string ⟨#[]⟩, .slice none 0 0, .slice none 0 0]) (by simp [results, Tryz.results134, go_sem, p0, p1, p2, p3, p4, p5, bz]) rfl
        ⟨_, badV, rfl, VS.flat _ _ _ _ _ _, (sets_below (g := w.heap.size) (Nat.le_refl _) [.int .i64 (-1), .int .i64 0, .int .i64 0, .string ⟨#[]⟩, .slice none 0 0, .slice none 0 0] 0 _ hb3).alloc (Nat.le_trans hb3.size (by simp [sets])) _, by rw [HP.out]; rfl⟩
    | some q =>
      obtain ⟨y, l⟩ := q
      obtain ⟨rfl, rfl⟩ := hval y l hp
      rw [hp] at q2
      simp only [Option.isNone_some] at q2
      by_cases hj : j = t.size
      · have HP : Hid (pRead t = some x) := Lib.hid (by unfold pRead; rw [if_pos hl, hp]; simp [hj])
        subst hj
        go_wp2_with fail
        exact bodyPost_ret (v := .agg #[.int .i64 k', .int .i64 n', .int .i64 m', .string s', .slice a1 l1 c1', .slice a2 l2 c2']) (by simp [results, Tryz.results134, go_sem, p0, p1, p2, p3, p4, p5, bz]) rfl
          (sreadR hb3 hEV hg (by simp; omega) (by rw [HP.out]; rfl))
      · have HP : Hid (pRead t = none) := Lib.hid (by unfold pRead; rw [if_pos hl, hp]; simp [hj])
        have f4 : ((j : Int) == t.size) = false := by rw [beq_eq_false_iff_ne]; omega
        have f1 : (!((j : Int) == t.size)) = true := by rw [f4]; rfl
        have f2 : ((j : Int) != t.size) = true := by rw [bne_iff_ne]; omega
        have f3 : (j != t.size) = true := bne_iff_ne.2 hj
        have f5 : (j == t.size) = false := by simpa using hj
        go_wp2_with fail
        exact bodyPost_ret (v := .agg #[.int .i64 (-1), .int .i64 0, .int .i64 0, .string ⟨#[]⟩, .slice none 0 0, .slice none 0 0]) (by simp [results, Tryz.results134, go_sem, p0, p1, p2, p3, p4, p5, bz]) rfl
          ⟨_, badV, rfl, VS.flat _ _ _ _ _ _, (sets_below (g := w.heap.size) (Nat.le_refl _) [.int .i64 (-1), .int .i64 0, .int .i64 0, .string ⟨#[]⟩, .slice none 0 0, .slice none 0 0] 0 _ hb3).alloc (Nat.le_trans hb3.size (by simp [sets])) _, by rw [HP.out]; rfl⟩
  · have HP : Hid (pRead t = none) := Lib.hid (by unfold pRead; rw [if_neg hl])
    have g1 : decide ((2000 : Int) < t.size) = true := decide_eq_true (by omega)
    have g2 : decide (2000 < t.size) = true := decide_eq_true (by omega)
    have hz2 : (t.size : Int) ≤ 9223372036854775807 := by unfold Sz at hz; omega
    go_enter Tryz.func134, Tryz.ntmps134
    go_wp2
    exact bodyPost_ret (v := .agg #[.int .i64 (-1), .int .i64 0, .int .i64 0, .string ⟨#[]⟩, .slice none 0 0, .slice none 0 0]) (by simp [results, Tryz.results134, go_sem]) rfl
      ⟨_, badV, rfl, VS.flat _ _ _ _ _ _, (Below.refl _ w).alloc (Nat.le_refl _) _, by rw [HP.out]; rfl⟩
end Go.Proofs.YtllhimeffkefiaaGreatDoor
/- The specification's test of a field's value is impl's. No condition on the text. -/
set_option linter.unusedVariables false
set_option linter.unusedSimpArgs false
namespace Go.Proofs.YtllhimeffkefiaaGreatDoor
open Go.RowKit Go.Sort
attribute [local go_sem] binOp_string_geq'

mutual
def plainS : Val → Bool
  | .mk k _ _ _ _ items => decide (0 ≤ k) && decide (k < 8) && plainSs items
def plainSs : List Val → Bool
  | [] => true
  | x :: xs => (decide (x.kind = 0) || plainS x) && plainSs xs
end
def itemS (x : Val) : Bool := decide (x.kind = 0) || plainS x
theorem plainSs_all : ∀ xs : List Val, plainSs xs = xs.all itemS
  | [] => by simp [plainSs]
  | x :: xs => by simp [plainSs, plainSs_all xs, itemS]
theorem VS.belowA {w : World} {S : Nat → Prop} {v : Value} {x : Val} (h : VS w S v x) (o : Obj) : VS (w.alloc o) S v x := by
  obtain ⟨f, hf, hE⟩ := h
  exact ⟨f, hf, EV_kept 5 4 (fun b _ hlt => ((Below.refl w.heap.size w).alloc (Nat.le_refl _) o).block b hlt) x f hE⟩
theorem VS.litsK {w : World} {S : Nat → Prop} {v : Value} {x : Val} (h : VS w S v x) : ∃ n m s a1 l1 c1 a2 l2 c2, v = .agg #[.int .i64 x.kind, .int .i64 n, .int .i64 m, .string s, .slice a1 l1 c1, .slice a2 l2 c2] := by
  obtain ⟨g, rfl, h⟩ := h
  obtain ⟨k, n, m, s, names, items⟩ := x
  obtain ⟨h0, h1, h2, h3, h4, h5⟩ := EV_iff.1 h
  obtain ⟨a, c, e4⟩ := h4.shape
  obtain ⟨a', c', e5⟩ := h5.shape
  exact ⟨n, m, s, a', _, c', a, _, c, by rw [h0, h1, h2, h3, e4, e5]; rfl⟩
def PlainOk (x : Val) : Prop := ∀ (w : World) (S : Nat → Prop) (v : Value), VS w S v x → Calls Tryz.prog 135 #[v] w (BoolB (plainS x) w)
theorem all_take {xs : List Val} {k : Nat} (hk : k < xs.length) : (xs.take (k + 1)).all itemS = ((xs.take k).all itemS && itemS xs[k]) := by
  rw [List.take_succ_eq_append_getElem hk, List.all_append]
  simp
set_option maxHeartbeats 4000000 in
set_option maxRecDepth 100000 in
theorem plain_step (k n m : Int) (s : ByteArray) (ns : List ByteArray) (items : List Val) (ih : ∀ y ∈ items, PlainOk y) : PlainOk (.mk k n m s ns items) := by
  intro w S v hV
  obtain ⟨f, rfl, hE⟩ := hV
  obtain ⟨h0, h1, h2, h3, h4, h5⟩ := EV_iff.1 hE
  obtain ⟨a4, c4, e4⟩ := h4.shape
  obtain ⟨a5, c5, e5⟩ := h5.shape
  rw [h0, h1, h2, h3, e4, e5]
  rw [e5] at h5
  have hlen := h5.len
  have hba := (Below.refl _ w).alloc (Nat.le_refl _) (.cells #[.int .i64 k, .int .i64 n, .int .i64 m, .string s, .slice a5 items.length c5, .slice a4 ns.length c4] 179)
  by_cases hk0 : k < 0
  · have HW : Hid (plainS (.mk k n m s ns items) = false) := Lib.hid (by simp only [plainS]; rw [decide_eq_false (by omega)]; rfl)
    have g1 : decide (k < 0) = true := decide_eq_true hk0
    clear hE h0 h1 h2 h3 h4 e4 e5
    go_enter Tryz.func135, Tryz.ntmps135
    go_wp2
    go_ret
    exact ⟨by rw [HW.out]; rfl, hba⟩
  by_cases hk8 : 8 ≤ k
  · have HW : Hid (plainS (.mk k n m s ns items) = false) := Lib.hid (by simp only [plainS]; rw [decide_eq_false (show ¬ k < 8 by omega)]; simp)
    have g1 : decide (k < 0) = false := decide_eq_false hk0
    have g2 : decide (8 ≤ k) = true := decide_eq_true hk8
    clear hE h0 h1 h2 h3 h4 e4 e5
    go_enter Tryz.func135, Tryz.ntmps135
    go_wp2
    go_ret
    exact ⟨by rw [HW.out]; rfl, hba⟩
  have HW : Hid (plainS (.mk k n m s ns items) = items.all itemS) := Lib.hid (by simp only [plainS]; rw [decide_eq_true (show 0 ≤ k by omega), decide_eq_true (show k < 8 by omega), plainSs_all]; rfl)
  have g1 : decide (k < 0) = false := decide_eq_false hk0
  have g2 : decide (8 ≤ k) = false := decide_eq_false hk8
  clear hE h0 h1 h2 h3 h4 e4 e5
  have hl2 : (items.length : Int) ≤ 9223372036854775807 := by omega
  go_enter Tryz.func135, Tryz.ntmps135
  go_wp2
  obtain ⟨bg, hbg⟩ : ∃ bg, w.heap.size = bg := ⟨_, rfl⟩
  have hB : Box (w.alloc (.cells #[.int .i64 k, .int .i64 n, .int .i64 m, .string s, .slice a5 items.length c5, .slice a4 ns.length c4] 179)) bg (.int .i64 k) (.int .i64 n) (.int .i64 m) (.string s) (.slice a5 items.length c5) (.slice a4 ns.length c4) := by rw [← hbg]; exact Box.alloc w _ _ _ _ _ _ _
  have h6 := h5.below (EV.kept 5 4) hba
  have hlo : w.heap.size ≤ bg := by omega
  rw [hbg]
  generalize w.alloc (.cells #[.int .i64 k, .int .i64 n, .int .i64 m, .string s, .slice a5 items.length c5, .slice a4 ns.length c4] 179) = W0 at hB hba h6 ⊢
  go_loopw [3] (fun iv wr => ∃ j : Nat, iv = .int .i64 j ∧ j ≤ items.length ∧ Hid ((items.take j).all itemS = true) ∧ Below W0.heap.size W0 wr) (fun iv wr => items.length - (intOf iv).toNat)
  case atStart => exact ⟨0, rfl, Nat.zero_le _, Lib.hid (by simp), Below.refl _ _⟩
  case round =>
    obtain ⟨j, rfl, hj, HJ, hb⟩ := hrel
    have hj2 : (j : Int) ≤ items.length := by omega
    have B1 := hB.kept (hb.block bg hB.lt)
    have q4 := B1.b4
    have bz := B1.lt
    by_cases hlt : j < items.length
    · have f0 : decide ((j : Int) < items.length) = true := decide_eq_true (by omega)
      have f0' : decide (j < items.length) = true := decide_eq_true hlt
      have hr5 := h6.below (EV.kept 5 4) hb
      obtain ⟨b, o, g, rfl, hS, hc, hEg⟩ := hr5.get hlt
      have hVI : VS wr S (.agg #[g 0, g 1, g 2, g 3, g 4, g 5]) items[j] := ⟨g, rfl, hEg⟩
      obtain ⟨n', m', s', a1, l1, c1', a2, l2, c2', hv⟩ := hVI.litsK
      simp only [Value.agg.injEq, Array.mk.injEq, List.cons.injEq, and_true] at hv
      obtain ⟨v0, v1, v2, v3, v4, v5⟩ := hv
      have d0 := hc 0 (by decide)
      have d1 := hc 1 (by decide)
      have d2 := hc 2 (by decide)
      have d3 := hc 3 (by decide)
      have d4 := hc 4 (by decide)
      have d5 := hc 5 (by decide)
      rw [v0] at d0; rw [v1] at d1; rw [v2] at d2; rw [v3] at d3; rw [v4] at d4; rw [v5] at d5
      rw [v0, v1, v2, v3, v4, v5] at hVI
      rw [Nat.add_zero] at d0
      have HT := Lib.hid (all_take hlt)
      obtain ⟨kk, HK⟩ : ∃ kk, Hid (items[j].kind = kk) := ⟨_, Lib.hid rfl⟩
      rw [HK.out] at d0 hVI
      clear hc hEg hr5 v0 v1 v2 v3 v4 v5
      by_cases hz : kk = 0
      · have HJ2 : Hid ((items.take (j + 1)).all itemS = true) := Lib.hid (by rw [HT.out, HJ.out]; unfold itemS; rw [HK.out, decide_eq_true hz]; rfl)
        have f1 : (kk != 0) = false := by simpa using hz
        clear hz
        go_wp2_with fail
        go_roundw
        case rel => exact ⟨j + 1, by go_num, by omega, HJ2, hb⟩
        case measure => simp [intOf]; omega
      · have f1 : (kk != 0) = true := by simpa using hz
        have HI : Hid (itemS items[j] = plainS items[j]) := Lib.hid (by unfold itemS; rw [HK.out, decide_eq_false hz]; rfl)
        clear hz
        cases hw : plainS items[j] with
        | false =>
          have HWj := Lib.hid hw
          have HF : Hid (items.all itemS = false) := Lib.hid (by
            rw [← Bool.not_eq_true, List.all_eq_true]
            intro q
            have := q _ (List.getElem_mem hlt)
            rw [HI.out, hw] at this
            cases this)
          clear hw
          go_wp2_with (go_at_call 135; refine (ih items[j] (List.getElem_mem hlt) _ S _ hVI).mono ?_; rintro e w2 ⟨he, hb2⟩; rw [HWj.out] at he; subst he)
          go_ret
          exact ⟨by rw [HW.out, HF.out]; rfl, (hba.trans (hb.mono hba.size)).trans (hb2.mono (Nat.le_trans hba.size hb.size))⟩
        | true =>
          have HWj := Lib.hid hw
          have HJ2 : Hid ((items.take (j + 1)).all itemS = true) := Lib.hid (by rw [HT.out, HJ.out, HI.out, hw]; rfl)
          clear hw
          go_wp2_with (go_at_call 135; refine (ih items[j] (List.getElem_mem hlt) _ S _ hVI).mono ?_; rintro e w2 ⟨he, hb2⟩; rw [HWj.out] at he; subst he)
          go_roundw
          case rel => exact ⟨j + 1, by go_num, by omega, HJ2, hb.trans (hb2.mono hb.size)⟩
          case measure => simp [intOf]; omega
    · have hj3 : j = items.length := by omega
      have HF : Hid (items.all itemS = true) := Lib.hid (by rw [← HJ.out, hj3, List.take_length])
      have f0 : decide ((j : Int) < items.length) = false := decide_eq_false (by omega)
      have f0' : decide (j < items.length) = false := decide_eq_false hlt
      go_wp2_with fail
      go_ret
      exact ⟨by rw [HW.out, HF.out]; rfl, hba.trans (hb.mono hba.size)⟩
mutual
theorem plain_any : ∀ x : Val, PlainOk x
  | .mk k n m s ns items => plain_step k n m s ns items (plains_any items)
theorem plains_any : ∀ (xs : List Val), ∀ y ∈ xs, PlainOk y
  | [], y, h => by simp at h
  | x :: xs, y, h => by
    rcases List.mem_cons.1 h with e | e
    · exact e ▸ plain_any x
    · exact plains_any xs y e
end
end Go.Proofs.YtllhimeffkefiaaGreatDoor
/- The specification's tests of fields, of nodes and edges: they are impl's. No condition on the text. -/
set_option linter.unusedVariables false
set_option linter.unusedSimpArgs false
namespace Go.Proofs.YtllhimeffkefiaaGreatDoor
open Go.RowKit Go.Sort
attribute [local go_sem] binOp_string_geq'

/-! ### what is read is well made -/
mutual
def goodV : Val → Prop
  | .mk k _ _ _ _ items => 0 ≤ k ∧ (k = 0 → items = []) ∧ goodVs items
def goodVs : List Val → Prop
  | [] => True
  | x :: xs => goodV x ∧ goodVs xs
end
theorem goodVs_snoc : ∀ {xs : List Val} {x : Val}, goodVs xs → goodV x → goodVs (xs ++ [x])
  | [], x, _, h => by simp [goodVs, h]
  | y :: ys, x, h, hx => by
    simp only [goodVs, List.cons_append] at h ⊢
    exact ⟨h.1, goodVs_snoc h.2 hx⟩
theorem good_flat {k n m : Int} {s : ByteArray} (h : 0 ≤ k) : goodV (flat k n m s) := by simp [flat, goodV, goodVs, h]
mutual
theorem plain_good : ∀ x : Val, goodV x → plainS x = !wildV x
  | .mk k n m s ns items, h => by
    simp only [goodV] at h
    obtain ⟨h0, _, h2⟩ := h
    simp only [plainS, wildV]
    rw [plains_good items h2, decide_eq_true h0]
    by_cases h8 : 8 ≤ k
    · rw [decide_eq_true h8, decide_eq_false (by omega)]; rfl
    · rw [decide_eq_false h8, decide_eq_true (show k < 8 by omega)]; simp
theorem plains_good : ∀ xs : List Val, goodVs xs → plainSs xs = !wildVs xs
  | [], _ => by simp [plainSs, wildVs]
  | .mk k n m s ns items :: xs, h => by
    simp only [goodVs] at h
    have h1 := plain_good (.mk k n m s ns items) h.1
    simp only [plainSs, wildVs]
    rw [plains_good xs h.2, h1]
    have hg := h.1
    simp only [goodV] at hg
    by_cases hk : k = 0
    · have he := hg.2.1 hk
      subst he hk
      simp [wildV, wildVs, Val.kind]
    · simp [Val.kind, hk]
end
def Par.Good (f : Par) : Prop := ∀ t i y k, f t i = some (y, k) → goodV y
theorem pItems_good {f : Par} (hf : f.Good) (t : ByteArray) : ∀ (g j : Nat) (acc : List Val) (y : Val) (k : Nat), goodVs acc → pItems f t g j acc = some (y, k) → goodV y
  | 0, j, acc, y, k, ha, h => by cases h
  | g + 1, j, acc, y, k, ha, h => by
    simp only [pItems] at h
    cases hv : f t j with
    | none => rw [hv] at h; cases h
    | some p =>
      obtain ⟨v, l⟩ := p
      have hg := goodVs_snoc ha (hf _ _ _ _ hv)
      rw [hv] at h
      simp only at h
      split at h
      · cases h
        simp [goodV, hg]
      · split at h
        · exact pItems_good hf t g _ _ y k hg h
        · cases h
theorem pFlds_good {f : Par} (hf : f.Good) (t : ByteArray) : ∀ (g j : Nat) (ns : List ByteArray) (acc : List Val) (y : Val) (k : Nat), goodVs acc → pFlds f t g j ns acc = some (y, k) → goodV y
  | 0, j, ns, acc, y, k, ha, h => by cases h
  | g + 1, j, ns, acc, y, k, ha, h => by
    simp only [pFlds] at h
    split at h
    · cases hv : f t (nameEnd t j + 1) with
      | none => rw [hv] at h; cases h
      | some p =>
        obtain ⟨v, l⟩ := p
        have hg := goodVs_snoc ha (hf _ _ _ _ hv)
        rw [hv] at h
        simp only at h
        split at h
        · cases h
          simp [goodV, hg]
        · split at h
          · exact pFlds_good hf t g _ _ _ y k hg h
          · cases h
    · cases h
theorem pThing_good : Par.Good pThing := by
  intro t i y k h
  unfold pThing at h
  split at h
  · cases hp : pId t (i + 1) with
    | none => rw [hp] at h; cases h
    | some n => rw [hp] at h; cases h; exact good_flat (by decide)
  · split at h
    · cases hp : pId t (i + 1) with
      | none => rw [hp] at h; cases h
      | some n => rw [hp] at h; cases h; exact good_flat (by decide)
    · cases h
theorem pSteps_good (t : ByteArray) : ∀ (g j : Nat) (want : Int) (acc : List Val) (y : Val) (k : Nat), goodVs acc → pSteps t g j want acc = some (y, k) → goodV y
  | 0, j, want, acc, y, k, ha, h => by cases h
  | g + 1, j, want, acc, y, k, ha, h => by
    simp only [pSteps] at h
    cases hv : pThing t j with
    | none => rw [hv] at h; cases h
    | some p =>
      obtain ⟨v, l⟩ := p
      have hg := goodVs_snoc ha (pThing_good _ _ _ _ hv)
      rw [hv] at h
      simp only at h
      split at h
      · cases h
      · split at h
        · cases h
          simp [goodV, hg]
        · split at h
          · exact pSteps_good t g _ _ _ y k hg h
          · cases h
theorem map_good {α : Type} {p : Option α} {F : α → Val × Nat} (hF : ∀ a, goodV (F a).1) {y : Val} {k : Nat} (h : p.map F = some (y, k)) : goodV y := by
  cases p with
  | none => cases h
  | some a =>
    simp only [Option.map_some, Option.some.injEq] at h
    have := hF a
    rw [h] at this
    exact this
theorem pPoint_good {t : ByteArray} {i : Nat} {y : Val} {k : Nat} (h : pPoint t i = some (y, k)) : goodV y := by
  unfold pPoint at h
  split at h
  · cases h
  · split at h
    · unfold pPoint2 at h
      split at h
      · cases h
      · split at h
        · cases h; exact good_flat (by decide)
        · cases h
    · cases h
theorem pValB_good {L M : Option (Val × Nat)} {t : ByteArray} {i : Nat} {y : Val} {k : Nat} (hL : L = some (y, k) → goodV y) (hM : M = some (y, k) → goodV y) (h : pValB L M t i = some (y, k)) : goodV y := by
  unfold pValB at h
  split at h
  · exact map_good (fun a => good_flat (by decide)) h
  split at h
  · exact map_good (fun a => good_flat (by decide)) h
  split at h
  · exact map_good (fun a => good_flat (by decide)) h
  split at h
  · exact pPoint_good h
  split at h
  · exact hL h
  split at h
  · exact hM h
  split at h
  · exact pSteps_good t _ _ _ _ y k (by simp [goodVs]) h
  split at h
  · cases h; exact good_flat (by decide)
  split at h
  · cases h; exact good_flat (by decide)
  split at h
  · cases h; exact good_flat (by decide)
  · exact pThing_good _ _ _ _ h
theorem pVal_good : ∀ n, Par.Good (pVal n)
  | 0, t, i, y, k, h => pValB_good (fun h => by cases h) (fun h => by cases h) h
  | n + 1, t, i, y, k, h => by
    refine pValB_good (fun h => ?_) (fun h => ?_) h
    · unfold pList at h
      split at h
      · cases h; simp [goodV, goodVs]
      · exact pItems_good (pVal_good n) t _ _ _ y k (by simp [goodVs]) h
    · unfold pMap at h
      split at h
      · cases h; simp [goodV, goodVs]
      · exact pFlds_good (pVal_good n) t _ _ _ _ y k (by simp [goodVs]) h
theorem pRead_good {t : ByteArray} {x : Val} (h : pRead t = some x) : goodV x := by
  unfold pRead at h
  split at h
  · cases hp : pVal 5 t 0 with
    | none => rw [hp] at h; cases h
    | some p =>
      rw [hp] at h
      simp only [Option.bind_some] at h
      split at h
      · cases h; exact pVal_good 5 t 0 p.1 p.2 hp
      · cases h
  · cases h
theorem fvB_spec (t : ByteArray) : fvB t = (decide (((pRead t).getD badV).kind ≠ 0) && plainS ((pRead t).getD badV)) := by
  unfold fvB
  cases hp : pRead t with
  | none => simp [badV, plainS, Val.kind]
  | some x => simp only [Option.getD_some]; rw [plain_good x (pRead_good hp)]

set_option maxHeartbeats 1000000 in
set_option maxRecDepth 100000 in
theorem svalueOk_any (w : World) (t : ByteArray) (hz : Sz t) : Calls Tryz.prog 114 #[.string t] w (BoolB (fvB t) w) := by
  have HF := Lib.hid (fvB_spec t)
  obtain ⟨x, HX⟩ : ∃ x, Hid ((pRead t).getD badV = x) := ⟨_, Lib.hid rfl⟩
  rw [HX.out] at HF
  obtain ⟨kk, HK⟩ : ∃ kk, Hid (x.kind = kk) := ⟨_, Lib.hid rfl⟩
  obtain ⟨q, hq⟩ : ∃ q, plainS x = q := ⟨_, rfl⟩
  have hpl : ∀ (w : World) (S : Nat → Prop) (v : Value), VS w S v x → Calls Tryz.prog 135 #[v] w (BoolB q w) := fun w S v h => hq ▸ plain_any x w S v h
  by_cases hk : kk = 0
  · have HB : Hid (fvB t = false) := Lib.hid (by rw [HF.out, HK.out, hk]; rfl)
    have f1 : (kk != 0) = false := by simpa using hk
    clear hk
    go_enter Tryz.func114, Tryz.ntmps114
    go_wp2_with (go_at_call 134; refine (sread_any _ t hz).mono ?_; rintro e w1 ⟨vv, y, rfl, hVS, hb1, hy⟩; rw [HX.out] at hy; subst hy; obtain ⟨n', m', s', a1, l1, c1', a2, l2, c2', rfl⟩ := hVS.litsK; rw [HK.out] at hVS ⊢)
    go_ret
    exact ⟨by rw [HB.out]; rfl, hb1.alloc hb1.size _⟩
  · have HB : Hid (fvB t = q) := Lib.hid (by rw [HF.out, HK.out, hq, decide_eq_true hk]; rfl)
    have f1 : (kk != 0) = true := by simpa using hk
    clear hk
    go_enter Tryz.func114, Tryz.ntmps114
    go_wp2_with (first
      | (go_at_call 134; refine (sread_any _ t hz).mono ?_; rintro e w1 ⟨vv, y, rfl, hVS, hb1, hy⟩; rw [HX.out] at hy; subst hy; obtain ⟨n', m', s', a1, l1, c1', a2, l2, c2', rfl⟩ := hVS.litsK; rw [HK.out] at hVS ⊢; have hVA := hVS.belowA (.cells #[.int .i64 kk, .int .i64 n', .int .i64 m', .string s', .slice a1 l1 c1', .slice a2 l2 c2'] 179))
      | (go_at_call 135; refine (hpl _ _ _ hVA).mono ?_; rintro e w2 ⟨rfl, hb2⟩))
    go_ret
    exact ⟨by rw [HB.out]; rfl, (hb1.alloc hb1.size _).trans (hb2.mono (Nat.le_trans hb1.size (by simp)))⟩
theorem svalue_is (w : World) (t : ByteArray) (hz : Sz t) (b : Bool) (h : fvB t = b) : Calls Tryz.prog 114 #[.string t] w (BoolB b w) := h ▸ svalueOk_any w t hz

set_option maxHeartbeats 2000000 in
set_option maxRecDepth 100000 in
theorem sfieldsOk_any (w : World) (S : Nat → Prop) (v : Value) (fs : List Fld) (h : RFld w S v fs) : Calls Tryz.prog 95 #[v] w (BoolB (flsB fs) w) := by
  obtain ⟨a, c, rfl⟩ := h.shape
  have hlen := h.len
  have hlen2 : (fs.length : Int) ≤ 9223372036854775807 := by omega
  by_cases hl : fs.length ≤ 20
  · have HR : Hid (flsB fs = allN (flAt fs) fs.length) := Lib.hid (by unfold flsB; rw [decide_eq_true hl]; rfl)
    have g1 : decide ((20 : Int) < fs.length) = false := decide_eq_false (by omega)
    have hl2 : (fs.length : Int) ≤ 20 := by omega
    have hl3 : decide (20 < fs.length) = false := decide_eq_false (by omega)
    go_enter Tryz.func95, Tryz.ntmps95
    go_wp2
    go_loopw [3] (fun i wr => ∃ k : Nat, k ≤ fs.length ∧ i = .int .i64 k ∧ Hid (allN (flAt fs) k = true) ∧ Below w.heap.size w wr) (fun i wr => fs.length - (intOf i).toNat)
    case atStart => exact ⟨0, by omega, rfl, Lib.hid rfl, Below.refl _ _⟩
    case round =>
      obtain ⟨k, hk, rfl, HA, hb⟩ := hrel
      have hk2 : (k : Int) ≤ fs.length := by omega
      by_cases hlt : k < fs.length
      · have hr := h.below EFld.kept hb
        obtain ⟨b, o, rfl, hS0, hc, hc1, hzn, hzv⟩ := RFld.at hr hlt
        have hlt2 : (k : Int) < fs.length := by omega
        have g0 : decide ((k : Int) < fs.length) = true := decide_eq_true hlt2
        have g0' : decide (k < fs.length) = true := decide_eq_true hlt
        obtain ⟨nm, hnm⟩ : ∃ s, fs[k].name = s := ⟨_, rfl⟩
        obtain ⟨vl, hvl⟩ : ∃ s, fs[k].value = s := ⟨_, rfl⟩
        rw [hnm] at hc hzn
        rw [hvl] at hc1 hzv
        have HS : Hid ((fs.getD k f0).name = nm) := Lib.hid (by rw [getD_eq hlt, hnm])
        have HV : Hid ((fs.getD k f0).value = vl) := Lib.hid (by rw [getD_eq hlt, hvl])
        clear hnm hvl
        have hprev : k ≠ 0 → ∃ la, wr.cell? ⟨b, o + (k - 1) * 2, none⟩ = some (.string la) ∧ (fs.getD (k - 1) f0).name = la := fun h0 => by
          obtain ⟨b', o', hab, _, hc', _⟩ := RFld.at hr (k := k - 1) (by omega)
          cases hab
          exact ⟨_, hc', by rw [getD_eq (by omega)]⟩
        obtain ⟨q1, hn⟩ : ∃ q, nameB nm = q := ⟨_, rfl⟩
        obtain ⟨q2, hfv⟩ : ∃ q, fvB vl = q := ⟨_, rfl⟩
        cases q1 with
        | false =>
          have HF : Hid (flsB fs = false) := Lib.hid (by rw [HR.out]; exact allN_no hlt (by unfold flAt; rw [HS.out, hn]; rfl))
          go_wp2_with fail
          refine region_ext (by kernel_rfl) (by kernel_rfl) ?_
          have y0 := Ext.cell hc
          have y1 := Ext.cell hc1
          repeat (first | go_big_quiet_skip | (go_big_quiet_want; go_big_quiet_op; first | go_big_quiet_on | (refine ⟨_, fun u => (sname_is _ u.w _ hn).mono fun e w' h => ⟨h.1, u, h.2.symm⟩, ?_⟩; go_big_quiet_on)))
          refine wpQuiet_nil ?_
          intro w2 hb2
          go_wp2_with fail
          go_ret
          exact ⟨by rw [HF.out]; rfl, hb.trans (hb2.mono hb.size)⟩
        | true =>
          by_cases h0 : k = 0
          · subst h0
            have hfl : flAt fs 0 = q2 := by unfold flAt; rw [HS.out, HV.out, hn, hfv]; simp
            simp only [Nat.zero_mul, Nat.add_zero] at hc hc1
            clear hprev
            cases q2 with
            | true =>
              have HN := Lib.hid (allN_up HA.out hfl)
              go_wp2_with fail
              refine region_ext (by kernel_rfl) (by kernel_rfl) ?_
              have y0 := Ext.cell hc
              have y1 := Ext.cell hc1
              repeat (first | go_big_quiet_skip | (go_big_quiet_want; go_big_quiet_op; first | go_big_quiet_on | (refine ⟨_, fun u => (sname_is _ u.w _ hn).mono fun e w' h => ⟨h.1, u, h.2.symm⟩, ?_⟩; go_big_quiet_on) | (refine ⟨_, fun u => (svalue_is u.w _ hzv _ hfv).mono fun e w' h => ⟨h.1, ⟨w', u.below.trans (h.2.mono u.below.size)⟩, rfl⟩, ?_⟩; go_big_quiet_on)))
              refine wpQuiet_nil ?_
              intro w2 hb2
              go_wp2_with fail
              go_round
              case rel => exact ⟨1, by omega, rfl, HN, hb.trans (hb2.mono hb.size)⟩
              case measure => simp [intOf]; omega
            | false =>
              have HF : Hid (flsB fs = false) := Lib.hid (by rw [HR.out]; exact allN_no hlt hfl)
              go_wp2_with fail
              refine region_ext (by kernel_rfl) (by kernel_rfl) ?_
              have y0 := Ext.cell hc
              have y1 := Ext.cell hc1
              repeat (first | go_big_quiet_skip | (go_big_quiet_want; go_big_quiet_op; first | go_big_quiet_on | (refine ⟨_, fun u => (sname_is _ u.w _ hn).mono fun e w' h => ⟨h.1, u, h.2.symm⟩, ?_⟩; go_big_quiet_on) | (refine ⟨_, fun u => (svalue_is u.w _ hzv _ hfv).mono fun e w' h => ⟨h.1, ⟨w', u.below.trans (h.2.mono u.below.size)⟩, rfl⟩, ?_⟩; go_big_quiet_on)))
              refine wpQuiet_nil ?_
              intro w2 hb2
              go_wp2_with fail
              go_ret
              exact ⟨by rw [HF.out]; rfl, hb.trans (hb2.mono hb.size)⟩
          · obtain ⟨la, hcp, hla⟩ := hprev h0
            have g3 : ((k : Int) - 1).toNat = k - 1 := by omega
            have g4 : decide ((0 : Int) < k) = true := decide_eq_true (by omega)
            have g7 : decide (0 < k) = true := decide_eq_true (by omega)
            have g5 : (0 : Int) ≤ (k : Int) - 1 := by omega
            have g6 : (k : Int) - 1 < fs.length := by omega
            clear hprev
            cases hlt' : Op.bytesLess la.toList nm.toList with
            | true =>
              have hfl : flAt fs k = q2 := by unfold flAt; rw [HS.out, HV.out, hla, hn, hfv]; unfold ltS; rw [hlt']; simp
              cases q2 with
              | true =>
                have HN := Lib.hid (allN_up HA.out hfl)
                go_wp2_with fail
                refine region_ext (by kernel_rfl) (by kernel_rfl) ?_
                have y0 := Ext.cell hc
                have y1 := Ext.cell hc1
                have y2 := Ext.cell hcp
                repeat (first | go_big_quiet_skip | (go_big_quiet_want; go_big_quiet_op; first | go_big_quiet_on | (refine ⟨_, fun u => (sname_is _ u.w _ hn).mono fun e w' h => ⟨h.1, u, h.2.symm⟩, ?_⟩; go_big_quiet_on) | (refine ⟨_, fun u => (svalue_is u.w _ hzv _ hfv).mono fun e w' h => ⟨h.1, ⟨w', u.below.trans (h.2.mono u.below.size)⟩, rfl⟩, ?_⟩; go_big_quiet_on)))
                refine wpQuiet_nil ?_
                intro w2 hb2
                go_wp2_with fail
                go_round
                case rel => exact ⟨k + 1, by omega, by go_num, HN, hb.trans (hb2.mono hb.size)⟩
                case measure => simp [intOf]; omega
              | false =>
                have HF : Hid (flsB fs = false) := Lib.hid (by rw [HR.out]; exact allN_no hlt hfl)
                go_wp2_with fail
                refine region_ext (by kernel_rfl) (by kernel_rfl) ?_
                have y0 := Ext.cell hc
                have y1 := Ext.cell hc1
                have y2 := Ext.cell hcp
                repeat (first | go_big_quiet_skip | (go_big_quiet_want; go_big_quiet_op; first | go_big_quiet_on | (refine ⟨_, fun u => (sname_is _ u.w _ hn).mono fun e w' h => ⟨h.1, u, h.2.symm⟩, ?_⟩; go_big_quiet_on) | (refine ⟨_, fun u => (svalue_is u.w _ hzv _ hfv).mono fun e w' h => ⟨h.1, ⟨w', u.below.trans (h.2.mono u.below.size)⟩, rfl⟩, ?_⟩; go_big_quiet_on)))
                refine wpQuiet_nil ?_
                intro w2 hb2
                go_wp2_with fail
                go_ret
                exact ⟨by rw [HF.out]; rfl, hb.trans (hb2.mono hb.size)⟩
            | false =>
              have HF : Hid (flsB fs = false) := Lib.hid (by rw [HR.out]; exact allN_no hlt (by unfold flAt; rw [HS.out, hla, hn]; unfold ltS; rw [hlt', decide_eq_false h0]; rfl))
              go_wp2_with fail
              refine region_ext (by kernel_rfl) (by kernel_rfl) ?_
              have y0 := Ext.cell hc
              have y1 := Ext.cell hc1
              have y2 := Ext.cell hcp
              repeat (first | go_big_quiet_skip | (go_big_quiet_want; go_big_quiet_op; first | go_big_quiet_on | (refine ⟨_, fun u => (sname_is _ u.w _ hn).mono fun e w' h => ⟨h.1, u, h.2.symm⟩, ?_⟩; go_big_quiet_on)))
              refine wpQuiet_nil ?_
              intro w2 hb2
              go_wp2_with fail
              go_ret
              exact ⟨by rw [HF.out]; rfl, hb.trans (hb2.mono hb.size)⟩
      · have hk3 : k = fs.length := by omega
        subst hk3
        have g0 : decide ((fs.length : Int) < fs.length) = false := decide_eq_false (by omega)
        go_wp2_with fail
        go_ret
        exact ⟨by rw [HR.out, HA.out]; rfl, hb⟩
  · have HF : Hid (flsB fs = false) := Lib.hid (by unfold flsB; rw [decide_eq_false hl]; rfl)
    have g1 : decide ((20 : Int) < fs.length) = true := decide_eq_true (by omega)
    have g2 : decide (20 < fs.length) = true := decide_eq_true (by omega)
    go_enter Tryz.func95, Tryz.ntmps95
    go_wp2
    go_ret
    exact ⟨by rw [HF.out]; rfl, Below.refl _ _⟩
end Go.Proofs.YtllhimeffkefiaaGreatDoor
/- The specification's tests of labels, nodes and edges: they are impl's; where a node stands. No condition. -/
set_option linter.unusedVariables false
set_option linter.unusedSimpArgs false
namespace Go.Proofs.YtllhimeffkefiaaGreatDoor
open Go.RowKit Go.Sort
attribute [local go_sem] binOp_string_geq'

theorem sid_any (n : Int) (w : World) : Calls Tryz.prog 93 #[.int .i64 n] w (BoolR (okId n) w) := by
  by_cases h1 : 1 ≤ n
  · have g1 : decide (1 ≤ n) = true := decide_eq_true h1
    have HX : Hid (okId n = decide (n ≤ 1000000000000)) := Lib.hid (by unfold okId; by_cases h2 : n ≤ 1000000000000 <;> simp [h1, h2])
    go_enter Tryz.func93, Tryz.ntmps93
    go_wp2
    go_ret
    exact boolR (by rw [HX.out])
  · have g1 : decide (1 ≤ n) = false := decide_eq_false h1
    have HX : Hid (okId n = false) := Lib.hid (by unfold okId; simp; omega)
    go_enter Tryz.func93, Tryz.ntmps93
    go_wp2
    go_ret
    exact boolR (by rw [HX.out])
theorem sid_is (n : Int) (w : World) (b : Bool) (h : okId n = b) : Calls Tryz.prog 93 #[.int .i64 n] w (BoolR b w) := h ▸ sid_any n w
theorem sfields_is (w : World) (S : Nat → Prop) (v : Value) (fs : List Fld) (b : Bool) (hb : flsB fs = b) (h : RFld w S v fs) : Calls Tryz.prog 95 #[v] w (BoolB b w) := hb ▸ sfieldsOk_any w S v fs h
theorem allN_and {p q : Nat → Bool} : ∀ n, allN (fun k => p k && q k) n = (allN p n && allN q n)
  | 0 => rfl
  | n + 1 => by
    simp only [allN]
    rw [allN_and n]
    cases allN p n <;> cases allN q n <;> cases p n <;> cases q n <;> rfl
theorem risB_spec (ns : List ByteArray) : risB 10 ns = (decide (ns.length ≤ 10) && risL ns && allN (fun k => nameB (ns.getD k e0)) ns.length) := by
  unfold risB risL
  rw [show allN (risAt ns) ns.length = allN (fun k => nameB (ns.getD k e0) && risP ns k) ns.length from rfl, allN_and]
  cases decide (ns.length ≤ 10) <;> cases allN (fun k => nameB (ns.getD k e0)) ns.length <;> cases allN (risP ns) ns.length <;> rfl
set_option maxHeartbeats 1000000 in
set_option maxRecDepth 100000 in
theorem slabels_any (w : World) (S : Nat → Prop) (v : Value) (ns : List ByteArray) (h : RStr w S v ns) : Calls Tryz.prog 94 #[v] w (BoolB (risB 10 ns) w) := by
  have HR := Lib.hid (risB_spec ns)
  obtain ⟨a, c, rfl⟩ := h.shape
  have hlen := h.len
  have hlen2 : (ns.length : Int) ≤ 9223372036854775807 := by omega
  by_cases hl : ns.length ≤ 10
  · have g1 : decide ((10 : Int) < ns.length) = false := decide_eq_false (by omega)
    have g2 : decide (10 < ns.length) = false := decide_eq_false (by omega)
    obtain ⟨q, hq⟩ : ∃ q, risL ns = q := ⟨_, rfl⟩
    cases q with
    | false =>
      have HF : Hid (risB 10 ns = false) := Lib.hid (by rw [HR.out, hq]; simp)
      go_enter Tryz.func94, Tryz.ntmps94
      go_wp2_with (go_at_call 113; refine (srising_is _ _ _ _ _ hq h).mono ?_; rintro e w1 ⟨rfl, hb1⟩)
      go_ret
      exact ⟨by rw [HF.out]; rfl, hb1⟩
    | true =>
      have HR2 : Hid (risB 10 ns = allN (fun k => nameB (ns.getD k e0)) ns.length) := Lib.hid (by rw [HR.out, hq, decide_eq_true hl]; rfl)
      go_enter Tryz.func94, Tryz.ntmps94
      go_wp2_with (go_at_call 113; refine (srising_is _ _ _ _ _ hq h).mono ?_; rintro e w1 ⟨rfl, hb1⟩)
      go_loopw [3] (fun i wr => ∃ k : Nat, k ≤ ns.length ∧ i = .int .i64 k ∧ Hid (allN (fun k => nameB (ns.getD k e0)) k = true) ∧ Below w.heap.size w wr) (fun i wr => ns.length - (intOf i).toNat)
      case atStart => exact ⟨0, by omega, rfl, Lib.hid rfl, hb1⟩
      case round =>
        obtain ⟨k, hk, rfl, HA, hb⟩ := hrel
        by_cases hlt : k < ns.length
        · have hr := h.below EStr.kept hb
          obtain ⟨b, o, rfl, hS, hc, hz⟩ := RStr.at hr hlt
          have hlt2 : (k : Int) < ns.length := by omega
          have f0 : decide ((k : Int) < ns.length) = true := decide_eq_true hlt2
          have f0' : decide (k < ns.length) = true := decide_eq_true hlt
          obtain ⟨s, hs⟩ : ∃ s, ns[k] = s := ⟨_, rfl⟩
          rw [hs] at hc
          have HS : Hid (ns.getD k e0 = s) := Lib.hid ((getD_eq hlt).trans hs)
          clear hs
          cases hn : nameB s with
          | true =>
            have HN : Hid (allN (fun k => nameB (ns.getD k e0)) (k + 1) = true) := Lib.hid (allN_up HA.out (by show nameB (ns.getD k e0) = _; rw [HS.out, hn]))
            go_wp2_with (go_at_call 96; refine (sname_is _ _ _ hn).mono ?_; rintro e w' ⟨rfl, rfl⟩)
            go_round
            case rel => exact ⟨k + 1, by omega, by go_num, HN, hb⟩
            case measure => simp [intOf]; omega
          | false =>
            have HF : Hid (risB 10 ns = false) := Lib.hid (by rw [HR2.out]; exact allN_no hlt (by show nameB (ns.getD k e0) = _; rw [HS.out, hn]))
            go_wp2_with (go_at_call 96; refine (sname_is _ _ _ hn).mono ?_; rintro e w' ⟨rfl, rfl⟩)
            go_ret
            exact ⟨by rw [HF.out]; rfl, hb⟩
        · have hk3 : k = ns.length := by omega
          subst hk3
          have f0 : decide ((ns.length : Int) < ns.length) = false := decide_eq_false (by omega)
          go_wp2_with fail
          go_ret
          exact ⟨by rw [HR2.out, HA.out]; rfl, hb⟩
  · have HF : Hid (risB 10 ns = false) := Lib.hid (by rw [HR.out, decide_eq_false hl]; rfl)
    have g1 : decide ((10 : Int) < ns.length) = true := decide_eq_true (by omega)
    have g2 : decide (10 < ns.length) = true := decide_eq_true (by omega)
    go_enter Tryz.func94, Tryz.ntmps94
    go_wp2
    go_ret
    exact ⟨by rw [HF.out]; rfl, Below.refl _ _⟩
theorem slabels_is (w : World) (S : Nat → Prop) (v : Value) (ns : List ByteArray) (b : Bool) (hb : risB 10 ns = b) (h : RStr w S v ns) : Calls Tryz.prog 94 #[v] w (BoolB b w) := hb ▸ slabels_any w S v ns h
set_option maxHeartbeats 400000 in
set_option maxRecDepth 100000 in
theorem snode_any (w : World) (S : Nat → Prop) (x : Nd) (a1 a2 : Option Addr) (c1 c2 : Nat) (h1 : RStr w S (.slice a1 x.labels.length c1) x.labels) (h2 : RFld w S (.slice a2 x.fields.length c2) x.fields) :
    Calls Tryz.prog 69 #[.agg #[.int .i64 x.id, .slice a1 x.labels.length c1, .slice a2 x.fields.length c2]] w (BoolB (ndB x) w) := by
  obtain ⟨b1, e1⟩ : ∃ b, okId x.id = b := ⟨_, rfl⟩
  obtain ⟨b2, e2⟩ : ∃ b, risB 10 x.labels = b := ⟨_, rfl⟩
  obtain ⟨b3, e3⟩ : ∃ b, flsB x.fields = b := ⟨_, rfl⟩
  have HX : Hid (ndB x = (b1 && b2 && b3)) := Lib.hid (by unfold ndB; rw [e1, e2, e3])
  have hb := (Below.refl _ w).alloc (Nat.le_refl _) (.cells #[.int .i64 x.id, .slice a1 x.labels.length c1, .slice a2 x.fields.length c2] 74)
  have hr1 := h1.below EStr.kept hb
  have hr2 := h2.below EFld.kept hb
  cases b1 <;> cases b2
  all_goals
    go_enter Tryz.func69, Tryz.ntmps69
    go_wp2_with (first
      | (go_at_call 93; refine (sid_is _ _ _ e1).mono ?_; rintro e w' ⟨rfl, rfl⟩)
      | (go_at_call 94; refine (slabels_is _ _ _ _ _ e2 hr1).mono ?_; rintro e w2 ⟨rfl, hb2⟩; have hr3 := hr2.below EFld.kept hb2; have x2 : w2.cell? ⟨w.heap.size, 2, none⟩ = some (.slice a2 x.fields.length c2) := cell_kept (fun hl => hb2.block _ hl) (by rw [World.cell?_alloc_mark]; rfl))
      | (go_at_call 95; refine (sfields_is _ _ _ _ _ e3 hr3).mono ?_; rintro e w' ⟨rfl, hb3⟩))
    go_ret
  · exact ⟨by rw [HX.out]; rfl, hb⟩
  · exact ⟨by rw [HX.out]; rfl, hb⟩
  · exact ⟨by rw [HX.out]; rfl, hb.trans (hb2.mono hb.size)⟩
  · exact ⟨by rw [HX.out]; rfl, (hb.trans (hb2.mono hb.size)).trans (hb3.mono (Nat.le_trans hb.size hb2.size))⟩
set_option maxHeartbeats 400000 in
set_option maxRecDepth 100000 in
theorem sedge_any (w : World) (S : Nat → Prop) (x : Ed) (a2 : Option Addr) (c2 : Nat) (h2 : RFld w S (.slice a2 x.fields.length c2) x.fields) :
    Calls Tryz.prog 70 #[.agg #[.int .i64 x.id, .string x.type, .int .i64 x.src, .int .i64 x.dst, .slice a2 x.fields.length c2]] w (BoolB (edB x) w) := by
  obtain ⟨b1, e1⟩ : ∃ b, okId x.id = b := ⟨_, rfl⟩
  obtain ⟨b2, e2⟩ : ∃ b, nameB x.type = b := ⟨_, rfl⟩
  obtain ⟨b3, e3⟩ : ∃ b, okId x.src = b := ⟨_, rfl⟩
  obtain ⟨b4, e4⟩ : ∃ b, okId x.dst = b := ⟨_, rfl⟩
  obtain ⟨b5, e5⟩ : ∃ b, flsB x.fields = b := ⟨_, rfl⟩
  have HX : Hid (edB x = (b1 && b2 && b3 && b4 && b5)) := Lib.hid (by unfold edB; rw [e1, e2, e3, e4, e5])
  have hb := (Below.refl _ w).alloc (Nat.le_refl _) (.cells #[.int .i64 x.id, .string x.type, .int .i64 x.src, .int .i64 x.dst, .slice a2 x.fields.length c2] 122)
  have hr2 := h2.below EFld.kept hb
  have t1 : True := trivial
  have t2 : True := trivial
  cases b1
  · go_enter Tryz.func70, Tryz.ntmps70
    go_wp2_with (go_at_call 93; refine (sid_is _ _ _ e1).mono ?_; rintro e w' ⟨rfl, rfl⟩)
    go_ret
    exact ⟨by rw [HX.out]; rfl, hb⟩
  cases b2
  · go_enter Tryz.func70, Tryz.ntmps70
    go_wp2_with (first
      | (go_at_call 93; refine (sid_is _ _ _ e1).mono ?_; rintro e w' ⟨rfl, rfl⟩)
      | (go_at_call 96; refine (sname_is _ _ _ e2).mono ?_; rintro e w' ⟨rfl, rfl⟩))
    go_ret
    exact ⟨by rw [HX.out]; rfl, hb⟩
  cases b3
  · go_enter Tryz.func70, Tryz.ntmps70
    go_wp2_with (first
      | (go_at_call 93; clear t1; refine (sid_is _ _ _ e1).mono ?_; rintro e w' ⟨rfl, rfl⟩)
      | (go_at_call 96; refine (sname_is _ _ _ e2).mono ?_; rintro e w' ⟨rfl, rfl⟩)
      | (go_at_call 93; refine (sid_is _ _ _ e3).mono ?_; rintro e w' ⟨rfl, rfl⟩))
    go_ret
    exact ⟨by rw [HX.out]; rfl, hb⟩
  cases b4
  · go_enter Tryz.func70, Tryz.ntmps70
    go_wp2_with (first
      | (go_at_call 93; clear t1; refine (sid_is _ _ _ e1).mono ?_; rintro e w' ⟨rfl, rfl⟩)
      | (go_at_call 96; refine (sname_is _ _ _ e2).mono ?_; rintro e w' ⟨rfl, rfl⟩)
      | (go_at_call 93; clear t2; refine (sid_is _ _ _ e3).mono ?_; rintro e w' ⟨rfl, rfl⟩)
      | (go_at_call 93; refine (sid_is _ _ _ e4).mono ?_; rintro e w' ⟨rfl, rfl⟩))
    go_ret
    exact ⟨by rw [HX.out]; rfl, hb⟩
  · go_enter Tryz.func70, Tryz.ntmps70
    go_wp2_with (first
      | (go_at_call 93; clear t1; refine (sid_is _ _ _ e1).mono ?_; rintro e w' ⟨rfl, rfl⟩)
      | (go_at_call 96; refine (sname_is _ _ _ e2).mono ?_; rintro e w' ⟨rfl, rfl⟩)
      | (go_at_call 93; clear t2; refine (sid_is _ _ _ e3).mono ?_; rintro e w' ⟨rfl, rfl⟩)
      | (go_at_call 93; refine (sid_is _ _ _ e4).mono ?_; rintro e w' ⟨rfl, rfl⟩)
      | (go_at_call 95; refine (sfields_is _ _ _ _ _ e5 hr2).mono ?_; rintro e w' ⟨rfl, hb3⟩))
    go_ret
    exact ⟨by rw [HX.out]; rfl, hb.trans (hb3.mono hb.size)⟩
/-- where the node with this Id stands, from place k on; -1: nowhere -/
def posN : List Nd → Int → Nat → Int
  | [], _, _ => -1
  | x :: xs, id, k => if x.id = id then (k : Int) else posN xs id (k + 1)
theorem posN_thr : ∀ (ns : List Nd) (id : Int) (k : Nat), decide (posN ns id k < 0) = !thr ns id
  | [], id, k => by simp [posN, thr]
  | x :: xs, id, k => by
    unfold posN
    by_cases h : x.id = id
    · rw [if_pos h]
      simp [thr, h]
    · rw [if_neg h, posN_thr xs id (k + 1)]
      simp [thr, h]
theorem posN_at {ns : List Nd} {id : Int} {k : Nat} (h : k < ns.length) : posN (ns.drop k) id k = if ns[k].id = id then (k : Int) else posN (ns.drop (k + 1)) id (k + 1) := by
  rw [List.drop_eq_getElem_cons h]
  rfl
def IntB (n : Int) (w : World) (e : Ending) (w' : World) : Prop := e = .returned (.int .i64 n) ∧ Below w.heap.size w w'
set_option maxHeartbeats 1000000 in
set_option maxRecDepth 100000 in
theorem snodeAt_any (w : World) (S : Nat → Prop) (a1 a2 : Option Addr) (n2 c1 c2 : Nat) (ns : List Nd) (id : Int) (h : RNd w S (.slice a1 ns.length c1) ns) : Calls Tryz.prog 38 #[.agg #[.slice a1 ns.length c1, .slice a2 n2 c2], .int .i64 id] w (IntB (posN ns id 0) w) := by
  have hlen := h.len
  have hlen2 : (ns.length : Int) ≤ 9223372036854775807 := by omega
  have hba := (Below.refl _ w).alloc (Nat.le_refl _) (.cells #[.slice a1 ns.length c1, .slice a2 n2 c2] 36)
  obtain ⟨bg, hbg⟩ : ∃ bg, w.heap.size = bg := ⟨_, rfl⟩
  have hg0 : (w.alloc (.cells #[.slice a1 ns.length c1, .slice a2 n2 c2] 36)).cell? ⟨bg, 0, none⟩ = some (.slice a1 ns.length c1) := by rw [← hbg, World.cell?_alloc_mark]; rfl
  have h6 := h.below ENd.kept hba
  go_enter Tryz.func38, Tryz.ntmps38
  go_wp2
  generalize w.alloc (.cells #[.slice a1 ns.length c1, .slice a2 n2 c2] 36) = W0 at hg0 hba h6 ⊢
  go_loopw [5] (fun iv wr => ∃ k : Nat, k ≤ ns.length ∧ iv = .int .i64 k ∧ Hid (posN ns id 0 = posN (ns.drop k) id k) ∧ Below W0.heap.size W0 wr) (fun iv wr => ns.length - (intOf iv).toNat)
  case atStart => exact ⟨0, by omega, rfl, Lib.hid rfl, Below.refl _ _⟩
  case round =>
    obtain ⟨k, hk, rfl, HA, hb⟩ := hrel
    have q0 : wr.cell? ⟨bg, 0, none⟩ = some (.slice a1 ns.length c1) := cell_kept (fun hl => hb.block bg hl) hg0
    by_cases hlt : k < ns.length
    · have f0 : decide ((k : Int) < ns.length) = true := decide_eq_true (by omega)
      have f0' : decide (k < ns.length) = true := decide_eq_true hlt
      have hlt2 : (k : Int) < ns.length := by omega
      have hr := h6.below ENd.kept hb
      obtain ⟨b, o, l1, d1, l2, d2, rfl, hS0, hc, _⟩ := RNd.at hr hlt
      obtain ⟨xi, hxi⟩ : ∃ xi, ns[k].id = xi := ⟨_, rfl⟩
      have HP := Lib.hid (posN_at (id := id) hlt)
      rw [hxi] at hc HP
      clear hxi
      by_cases he : xi = id
      · have HF : Hid (posN ns id 0 = k) := Lib.hid (by rw [HA.out, HP.out, if_pos he])
        have f1 : (xi == id) = true := by simpa using he
        clear he HP
        go_wp2_with fail
        go_ret
        exact ⟨by rw [HF.out]; rfl, hba.trans (hb.mono hba.size)⟩
      · have HF : Hid (posN ns id 0 = posN (ns.drop (k + 1)) id (k + 1)) := Lib.hid (by rw [HA.out, HP.out, if_neg he])
        have f1 : (xi == id) = false := by simpa using he
        clear he HP
        go_wp2_with fail
        go_round
        case rel => exact ⟨k + 1, by omega, by go_num, HF, hb⟩
        case measure => simp [intOf]; omega
    · have hk3 : k = ns.length := by omega
      subst hk3
      have f0 : decide ((ns.length : Int) < ns.length) = false := decide_eq_false (by omega)
      go_wp2_with fail
      go_ret
      exact ⟨by rw [HA.out, List.drop_length]; rfl, hba.trans (hb.mono hba.size)⟩
end Go.Proofs.YtllhimeffkefiaaGreatDoor
