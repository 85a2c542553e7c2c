/- Texts of one proof, joined in their order: each bears its own word of what it holds and on what condition. -/
import Derived.Test.YtllhimeffkefiaaGreatDoorMD
set_option linter.unusedVariables false
set_option linter.unusedSimpArgs false
/- impl's reading of lists. Condition: texts of at most 2^20 bytes. -/
set_option linter.unusedVariables false
namespace Go.Proofs.YtllhimeffkefiaaGreatDoor
open Go.RowKit Go.Sort

/-- six cells of a value in a box -/
structure Box (w : World) (b : Nat) (a0 a1 a2 a3 a4 a5 : Value) : Prop where
  b0 : w.cell? ⟨b, 0, none⟩ = some a0
  b1 : w.cell? ⟨b, 1, none⟩ = some a1
  b2 : w.cell? ⟨b, 2, none⟩ = some a2
  b3 : w.cell? ⟨b, 3, none⟩ = some a3
  b4 : w.cell? ⟨b, 4, none⟩ = some a4
  b5 : w.cell? ⟨b, 5, none⟩ = some a5
  bf : ∀ o, w.frozen? ⟨b, o, none⟩ = false
theorem Box.lt {w : World} {b : Nat} {a0 a1 a2 a3 a4 a5 : Value} (h : Box w b a0 a1 a2 a3 a4 a5) : b < w.heap.size := lt_of_cell h.b0
theorem Box.kept {w w' : World} {b : Nat} {a0 a1 a2 a3 a4 a5 : Value} (h : Box w b a0 a1 a2 a3 a4 a5) (hk : w'.heap[b]? = w.heap[b]?) : Box w' b a0 a1 a2 a3 a4 a5 := by
  have hc : ∀ o, w'.cell? ⟨b, o, none⟩ = w.cell? ⟨b, o, none⟩ := fun o => World.cell?_of_block (a := ⟨b, o, none⟩) hk
  have hf : ∀ o, w'.frozen? ⟨b, o, none⟩ = w.frozen? ⟨b, o, none⟩ := fun o => World.frozen?_of_block (a := ⟨b, o, none⟩) hk
  exact ⟨(hc 0).trans h.b0, (hc 1).trans h.b1, (hc 2).trans h.b2, (hc 3).trans h.b3, (hc 4).trans h.b4, (hc 5).trans h.b5, fun o => (hf o).trans (h.bf o)⟩
theorem Box.to {r : Nat} {w w' : World} {b : Nat} {a0 a1 a2 a3 a4 a5 : Value} (h : Box w b a0 a1 a2 a3 a4 a5) (ht : To r w w') (hne : b ≠ r) : Box w' b a0 a1 a2 a3 a4 a5 := h.kept (ht.block b h.lt hne)
theorem Box.grown {w w' : World} {row : Option Nat} {b : Nat} {a0 a1 a2 a3 a4 a5 : Value} (h : Box w b a0 a1 a2 a3 a4 a5) (hg : w.grownBy w' row) (hne : row ≠ some b) : Box w' b a0 a1 a2 a3 a4 a5 := h.kept (hg.block b h.lt (fun e => hne e.symm))
theorem Box.alloc (w : World) (a0 a1 a2 a3 a4 a5 : Value) (T : Nat) : Box (w.alloc (.cells #[a0, a1, a2, a3, a4, a5] T)) w.heap.size a0 a1 a2 a3 a4 a5 := by
  refine ⟨?_, ?_, ?_, ?_, ?_, ?_, ?_⟩
  iterate 6 rw [World.cell?_alloc_mark]; rfl
  intro o
  rw [World.frozen?_alloc_mark]
  simp
theorem Box.other {w : World} {b : Nat} {a0 a1 a2 a3 a4 a5 : Value} (h : Box w b a0 a1 a2 a3 a4 a5) {a : Addr} (ha : a.block ≠ b) (y : Value) : Box (w.setCell a y) b a0 a1 a2 a3 a4 a5 := h.kept (Below.heap_setCell _ _ _ _ (fun e => ha e.symm))
theorem Box.set5 {w : World} {b : Nat} {a0 a1 a2 a3 a4 a5 : Value} (h : Box w b a0 a1 a2 a3 a4 a5) (y : Value) : Box (w.setCell ⟨b, 5, none⟩ y) b a0 a1 a2 a3 a4 y := by
  have ho : ∀ o, o ≠ 5 → (w.setCell ⟨b, 5, none⟩ y).cell? ⟨b, o, none⟩ = w.cell? ⟨b, o, none⟩ := fun o ho => World.cell?_setCell_other _ _ _ _ (by simp [ho])
  exact ⟨(ho 0 (by decide)).trans h.b0, (ho 1 (by decide)).trans h.b1, (ho 2 (by decide)).trans h.b2, (ho 3 (by decide)).trans h.b3, (ho 4 (by decide)).trans h.b4, World.cell?_setCell_same _ _ _ h.b5, fun o => (World.frozen?_setCell _ _ _ _).trans (h.bf o)⟩
theorem Box.set4 {w : World} {b : Nat} {a0 a1 a2 a3 a4 a5 : Value} (h : Box w b a0 a1 a2 a3 a4 a5) (y : Value) : Box (w.setCell ⟨b, 4, none⟩ y) b a0 a1 a2 a3 y a5 := by
  have ho : ∀ o, o ≠ 4 → (w.setCell ⟨b, 4, none⟩ y).cell? ⟨b, o, none⟩ = w.cell? ⟨b, o, none⟩ := fun o ho => World.cell?_setCell_other _ _ _ _ (by simp [ho])
  exact ⟨(ho 0 (by decide)).trans h.b0, (ho 1 (by decide)).trans h.b1, (ho 2 (by decide)).trans h.b2, (ho 3 (by decide)).trans h.b3, World.cell?_setCell_same _ _ _ h.b4, (ho 5 (by decide)).trans h.b5, fun o => (World.frozen?_setCell _ _ _ _).trans (h.bf o)⟩
/-- a value whose names and items stand in rows of the call's own is handed back -/
theorem valR_hold {T base : Nat} {r : Nat} {t : ByteArray} {w w3 : World} {i j : Nat} {k n m : Int} {s : ByteArray} {u v : Value} {ns : List ByteArray} {xs : List Val} {p : Option (Val × Nat)} {b : Bool} (h : Rs w r t i) (hr : Rs w3 r t j) (ht : To r w w3)
    (H : Hold 4 5 T base w3 u v ns xs) (hB : w.heap.size < base) (hn : ns.length ≤ 9223372036854775807) (hx : xs.length ≤ 9223372036854775807) (hb : b = p.isSome)
    (hp : ∀ y k', p = some (y, k') → Val.mk k n m s ns xs = y ∧ j = k') (us : List Value) :
    ValR r t p w (.returned (.tuple #[.agg #[.int .i64 k, .int .i64 n, .int .i64 m, .string s, u, v], .bool b])) (sets w3 w.heap.size 0 us) := by
  refine ⟨_, .mk k n m s ns xs, j, by rw [hb]; rfl, ⟨fun j => if j = 0 then .int .i64 k else if j = 1 then .int .i64 n else if j = 2 then .int .i64 m else if j = 3 then .string s else if j = 4 then u else v, rfl, ?_⟩, h.sets (Nat.le_refl _) _ _ hr, To.sets (Nat.le_refl _) _ _ ht, hp⟩
  have e1 := (H.rowN hn).sets EStr.kept (g := w.heap.size) (by omega) 0 us
  have e2 := (H.rowI hx).sets (EV.kept 4 5) (g := w.heap.size) (by omega) 0 us
  exact EV_iff.2 ⟨rfl, rfl, rfl, rfl, e1.mono EStr.mono (fun b hb => by omega), e2.mono (EV.mono 4 5) (fun b hb => by omega)⟩

theorem ValR.below {r : Nat} {t : ByteArray} {p : Option (Val × Nat)} {w w1 w2 : World} {e : Ending} (h : ValR r t p w e w1) (hb : Below w1.heap.size w1 w2) : ValR r t p w e w2 := by
  obtain ⟨v, x, j, he, ⟨f, hf, hE⟩, hr, ht, hp⟩ := h
  exact ⟨v, x, j, he, ⟨f, hf, EV_kept 4 5 (fun b _ hlt => hb.block b hlt) x f hE⟩, hr.below hb, ht.trans (To.of hb), hp⟩
abbrev boxT (k : Int) : Obj := .cells #[.int .i64 k, .int .i64 0, .int .i64 0, .string ⟨#[]⟩, .slice none 0 0, .slice none 0 0] 184
theorem two_boxes (w : World) (k : Int) : Below w.heap.size w ((w.alloc (boxT 0)).alloc (boxT k)) ∧ Box ((w.alloc (boxT 0)).alloc (boxT k)) w.heap.size (.int .i64 0) (.int .i64 0) (.int .i64 0) (.string ⟨#[]⟩) (.slice none 0 0) (.slice none 0 0) ∧
    Box ((w.alloc (boxT 0)).alloc (boxT k)) (w.heap.size + 1) (.int .i64 k) (.int .i64 0) (.int .i64 0) (.string ⟨#[]⟩) (.slice none 0 0) (.slice none 0 0) := by
  refine ⟨((Below.refl _ w).alloc (Nat.le_refl _) _).alloc (by simp) _, (Box.alloc w _ _ _ _ _ _ _).to (To.alloc (w.heap.size + 5) _ _) (by omega), ?_⟩
  have := Box.alloc (w.alloc (boxT 0)) (.int .i64 k) (.int .i64 0) (.int .i64 0) (.string ⟨#[]⟩) (.slice none 0 0) (.slice none 0 0) 184
  rwa [show (w.alloc (boxT 0)).heap.size = w.heap.size + 1 by simp] at this

theorem new_block {W : World} {H : Nat} (hH : W.heap.size = H) (cs : Array Value) (T : Nat) : (W.alloc (.cells cs T)).heap[H]? = some (.cells cs T (0, 0)) := by
  subst hH
  exact heap_alloc_new W _
theorem Hold.fresh {jn ji T base : Nat} {wr w3 W : World} {u v : Value} {ns : List ByteArray} {xs : List Val} {g : Nat → Value} {x : Val} (H : Hold jn ji T base wr u v ns xs) (hb : base ≤ wr.heap.size) (hE : EV jn ji w3 (fun b => wr.heap.size ≤ b) g x) (hW : Below w3.heap.size w3 W) :
    EV jn ji W (fun b => base ≤ b ∧ b < W.heap.size ∧ v.ownBlock ≠ some b ∧ u.ownBlock ≠ some b) g x := by
  obtain ⟨fs, hl, ho, he⟩ := H.items
  have h1 := EV_kept jn ji (w' := W) (fun b hb hlt => hW.block b hlt) x g (EV_cap jn ji x g hE)
  refine EV_mono jn ji (fun b hb' => ⟨Nat.le_trans hb hb'.1, Nat.lt_of_lt_of_le hb'.2 hW.size, fun e => ?_, fun e => ?_⟩) x g h1
  · have := (ho.lt b e).2
    omega
  · have := (H.names.lt b e).2
    omega
theorem VI.lits {w : World} {S : Nat → Prop} {v : Value} {x : Val} (h : VI w S v x) : ∃ k n m s a1 l1 c1 a2 l2 c2 g, v = .agg #[.int .i64 k, .int .i64 n, .int .i64 m, .string s, .slice a1 l1 c1, .slice a2 l2 c2] ∧ c6 g = [.int .i64 k, .int .i64 n, .int .i64 m, .string s, .slice a1 l1 c1, .slice a2 l2 c2] ∧ EV 4 5 w S g x := by
  obtain ⟨g, rfl, h⟩ := h
  obtain ⟨k, n, m, s, names, items⟩ := x
  obtain ⟨h0, h1, h2, h3, h4, h5⟩ := EV_iff.1 h
  obtain ⟨a, c, e4⟩ := h4.shape
  obtain ⟨a', c', e5⟩ := h5.shape
  exact ⟨k, n, m, s, a, _, c, a', _, c', g, by rw [h0, h1, h2, h3, e4, e5], by unfold c6; rw [h0, h1, h2, h3, e4, e5], h⟩
theorem EV.one {w : World} {S : Nat → Prop} {g : Nat → Value} {x : Val} {jn ji : Nat} (hj : (jn = 4 ∧ ji = 5) ∨ (jn = 5 ∧ ji = 4)) (h : EV jn ji w S g x) : ∀ u ∈ c6 g, u.oneCell' = true := by
  obtain ⟨k, n, m, s, names, items⟩ := x
  obtain ⟨h0, h1, h2, h3, h4, h5⟩ := EV_iff.1 h
  obtain ⟨a, c, e4⟩ := h4.shape
  obtain ⟨a', c', e5⟩ := h5.shape
  intro u hu
  rcases hj with ⟨rfl, rfl⟩ | ⟨rfl, rfl⟩ <;> simp only [c6, h0, h1, h2, h3, e4, e5, List.mem_cons, List.not_mem_nil, or_false] at hu <;> rcases hu with rfl | rfl | rfl | rfl | rfl | rfl <;> rfl

/-- the reading at a depth is f -/
def VOk (f : Par) (d : Int) : Prop := ∀ (w : World) (r : Nat) (t : ByteArray) (i : Nat), Rs w r t i → Calls Tryz.prog 146 #[.pointer (some ⟨r, 0, none⟩), .int .i64 d] w (ValR r t (f t i) w)

set_option maxHeartbeats 4000000 in
set_option maxRecDepth 100000 in
theorem list_any (d : Int) (hd0 : 0 ≤ d) (hd : d < 5) (f : Par) (hf : VOk f (d + 1)) (hp : f.Fwd) (w : World) (r : Nat) (t : ByteArray) (i : Nat) (h : Rs w r t i) (hi : byI t i = 91) :
    Calls Tryz.prog 162 #[.pointer (some ⟨r, 0, none⟩), .int .i64 d] w (ValR r t (pList f t i) w) := by
  have hlt := h.lt
  have hsz := h.sz
  have hne : w.heap.size ≠ r := by omega
  have hne2 : w.heap.size + 1 ≠ r := by omega
  have hd5 : (d == 5) = false := by simp; omega
  have HI := Lib.hid hi
  obtain ⟨hB, B4, B6⟩ := two_boxes w 6
  have h0 := h.below hB
  obtain ⟨i0, hi0, hz0, hz1, hz2⟩ := info_parts (show (Tryz.prog.info? 184).map (fun i => (i.zero, i.size, i.bytes)) = some (some (.agg #[.int .i64 0, .int .i64 0, .int .i64 0, .string ⟨#[]⟩, .slice none 0 0, .slice none 0 0]), 6, 88) by kernel_rfl)
  by_cases h93 : byI t (i + 1) = 93
  · have HP : Hid (pList f t i = some (.mk 6 0 0 e0 [] [], i + 2)) := Lib.hid (by unfold pList; rw [if_pos h93])
    have H93 := Lib.hid h93
    clear hi h93
    have tok : True := trivial
    go_enter Tryz.func162, Tryz.ntmps162
    go_wp2_with (first
      | (go_at_call 165; clear tok; refine (eat1_yes _ r t i 91 h0 (by decide) HI.out).mono ?_; rintro e w1 ⟨rfl, hr1, ht1⟩)
      | (go_at_call 165; refine (eat1_yes _ r t (i + 1) 93 hr1 (by decide) H93.out).mono ?_; rintro e w2 ⟨rfl, hr2, ht2⟩; obtain ⟨b0, b1, b2, b3, b4, b5, bf⟩ := (B4.to ht1 hne).to ht2 hne; obtain ⟨c0, c1, c2, c3, c4, c5, cf⟩ := (B6.to ht1 hne2).to ht2 hne2))
    exact bodyPost_ret (v := .tuple #[.agg #[.int .i64 6, .int .i64 0, .int .i64 0, .string ⟨#[]⟩, .slice none 0 0, .slice none 0 0], .bool true]) (by simp [results, Tryz.results162, go_sem, b0, b1, b2, b3, b4, b5]) rfl
      (valR_flat h hr2 (((To.of hB).trans ht1).trans ht2) (by rw [HP.out]; rfl) (fun y k' hy => by rw [HP.out] at hy; cases hy; exact ⟨rfl, rfl⟩) [.int .i64 6, .int .i64 0, .int .i64 0, .string ⟨#[]⟩, .slice none 0 0, .slice none 0 0])
  · have HP : Hid (pList f t i = pIts f t (i + 1) []) := Lib.hid (by unfold pList; rw [if_neg h93])
    have H93 := Lib.hid h93
    clear hi h93
    have tok : True := trivial
    go_enter Tryz.func162, Tryz.ntmps162
    go_wp2_with (first
      | (go_at_call 165; clear tok; refine (eat1_yes _ r t i 91 h0 (by decide) HI.out).mono ?_; rintro e w1 ⟨rfl, hr1, ht1⟩)
      | (go_at_call 165; refine (eat1_no _ r t (i + 1) 93 hr1 (by decide) H93.out).mono ?_; rintro e w2 ⟨rfl, hr2, ht2⟩; have B41 := (B4.to ht1 hne).to ht2 hne; have B61 := (B6.to ht1 hne2).to ht2 hne2))
    go_loopw [] (fun wr => ∃ (k : Nat) (xs : List Val) (v : Value), xs.length ≤ k ∧ k ≤ t.size ∧ Hid (pIts f t (i + 1) [] = pIts f t k xs) ∧ Rs wr r t k ∧ To r w wr ∧ Hold 4 5 184 (w.heap.size + 2) wr (.slice none 0 0) v [] xs ∧
        Box wr w.heap.size (.int .i64 0) (.int .i64 0) (.int .i64 0) (.string ⟨#[]⟩) (.slice none 0 0) (.slice none 0 0) ∧ Box wr (w.heap.size + 1) (.int .i64 6) (.int .i64 0) (.int .i64 0) (.string ⟨#[]⟩) (.slice none 0 0) v ∧ w.heap.size + 2 ≤ wr.heap.size) (fun wr => lefR r t wr)
    case atStart => exact ⟨i + 1, [], _, Nat.zero_le _, hr2.le, rfl, hr2, ((To.of hB).trans ht1).trans ht2, Hold.start _ _ _ _ _, B41, B61, B61.lt⟩
    case round =>
      clear hr1 ht1 hr2 ht2 B41 B61 B4 B6 hB h0
      obtain ⟨k, xs, v, hk1, hk, HR, hr, hw, HH, B4, B6, hzw⟩ := hrel
      have hsz2 : (t.size : Int) ≤ 1048576 := by omega
      cases hv : f t k with
      | none =>
        have HF : Hid (pList f t i = none) := Lib.hid (by rw [HP.out, HR.out, pIts_eq hp hk, hv])
        have HV := Lib.hid hv
        clear hv
        obtain ⟨v1, v2, v3, rfl⟩ : ∃ v1 v2 v3, v = .slice v1 v2 v3 := by
          obtain ⟨v1, v3, e⟩ := (HH.rowI (by omega)).shape
          exact ⟨_, _, _, e⟩
        go_wp2_with (go_at_call 146; refine (hf _ r t k hr).mono ?_; rintro e w3 ⟨vv, x, j, he, hVI, hr3, ht3, hval⟩; obtain ⟨k', n', m', s', a1, l1, c1', a2, l2, c2', g, rfl, hg, hEV⟩ := hVI.lits; rw [HV.out] at he; subst he; obtain ⟨p0, p1, p2, p3, p4, p5, pf⟩ := B4.to ht3 hne; obtain ⟨c0, c1, c2, c3, c4, c5, cf⟩ := B6.to ht3 hne2; have bz : w.heap.size < w3.heap.size := (B4.to ht3 hne).lt; have cz : w.heap.size + 1 < w3.heap.size := (B6.to ht3 hne2).lt)
        have H4 := HH.to ht3 (by omega)
        exact bodyPost_ret (v := .tuple #[.agg #[.int .i64 6, .int .i64 0, .int .i64 0, .string ⟨#[]⟩, .slice none 0 0, .slice v1 v2 v3], .bool false]) (by simp [results, Tryz.results162, go_sem, p0, p1, p2, p3, p4, p5, bz]) rfl
          (ValR.below (valR_hold h hr3 (hw.trans ht3) H4 (by omega) (by simp) (by omega) (by rw [HF.out]; rfl) (fun y k' hy => by rw [HF.out] at hy; cases hy) [.int .i64 6, .int .i64 0, .int .i64 0, .string ⟨#[]⟩, .slice none 0 0, .slice v1 v2 v3]) ((Below.refl _ _).alloc (Nat.le_refl _) _))
      | some p =>
        obtain ⟨y, l⟩ := p
        have hkl := hp t k y l hk hv
        have HE : Hid (pList f t i = if byI t l = 93 then some (.mk 6 0 0 e0 [] (xs ++ [y]), l + 1) else if byI t l = 44 then pIts f t (l + 1) (xs ++ [y]) else none) := Lib.hid (by rw [HP.out, HR.out, pIts_eq hp hk, hv])
        have HE2 : Hid (byI t l ≠ 93 → byI t l = 44 → pIts f t k xs = pIts f t (l + 1) (xs ++ [y])) := Lib.hid (fun h1 h2 => by rw [pIts_eq hp hk, hv]; simp only []; rw [if_neg h1, if_pos h2])
        have HV := Lib.hid hv
        clear hv
        by_cases q93 : byI t l = 93
        · have HF : Hid (pList f t i = some (.mk 6 0 0 e0 [] (xs ++ [y]), l + 1)) := Lib.hid (by rw [HE.out, if_pos q93])
          have Q93 := Lib.hid q93
          clear q93 HE HE2
          go_wp2_with (first
            | (go_at_call 146; refine (hf _ r t k hr).mono ?_; rintro e w3 ⟨vv, x, j, he, hVI, hr3, ht3, hval⟩; obtain ⟨k', n', m', s', a1, l1, c1', a2, l2, c2', g, rfl, hg, hEV⟩ := hVI.lits; rw [HV.out] at he; subst he; obtain ⟨rfl, rfl⟩ := hval y l HV.out; obtain ⟨b0, b1, b2, b3, b4, b5, bf⟩ := B4.to ht3 hne; obtain ⟨c0, c1, c2, c3, c4, c5, cf⟩ := B6.to ht3 hne2; have bz : w.heap.size < w3.heap.size := (B4.to ht3 hne).lt; have cz : w.heap.size + 1 < w3.heap.size := (B6.to ht3 hne2).lt)
            | (at_builtin; have hb5 : Below w3.heap.size w3 ((w3.alloc (.cells #[.int .i64 k', .int .i64 n', .int .i64 m', .string s', .slice a1 l1 c1', .slice a2 l2 c2'] 184)).alloc (.cells #[.int .i64 k', .int .i64 n', .int .i64 m', .string s', .slice a1 l1 c1', .slice a2 l2 c2'] 184)) := ((Below.refl _ w3).alloc (Nat.le_refl _) _).alloc (by simp) _; have H5 := (HH.to ht3 (by omega)).below hb5; obtain ⟨fs, hfl, ho5, he5⟩ := H5.items; refine wpList_append_lies _ rfl (.tmp 32) (.tmp 34) 182 rfl (w.heap.size + 2) 184 i0 (.agg #[.int .i64 0, .int .i64 0, .int .i64 0, .string ⟨#[]⟩, .slice none 0 0, .slice none 0 0]) 6 88 Tryz.underlying182 hi0 hz0 hz1 hz2 rfl (by decide) v xs.length (fs.flatMap c6) rfl ho5 ⟨_, 0, none⟩ 1 1 [.int .i64 k', .int .i64 n', .int .i64 m', .string s', .slice a1 l1 c1', .slice a2 l2 c2'] rfl rfl (World.news_of_block (new_block (by simp) _ _)) (hg ▸ EV.one (.inl ⟨rfl, rfl⟩) hEV) (by decide) (by unfold maxLen; omega) (by omega) (by simp <;> omega) _ rfl ?_; intro gg cap w6 hown6 hgrow6 hat6 hlt6; have hgrow6 : World.grownBy _ w6 v.ownBlock := hgrow6; have hat6 : v.ownBlock = some gg ∨ gg = _ := hat6; rw [← hg] at hown6; have H7 := Hold.item H5 hfl ho5 he5 hown6 hgrow6 hat6 hlt6 (Hold.fresh HH hzw hEV hb5); have hv4 : ∀ q, q < w.heap.size + 2 → v.ownBlock ≠ some q := fun q hq e => (by have := (ho5.lt q e).1; omega); have B47 := ((B4.to ht3 hne).to (To.of (r := r) hb5) hne).grown hgrow6 (hv4 _ (by omega)); have B67 := ((B6.to ht3 hne2).to (To.of (r := r) hb5) hne2).grown hgrow6 (hv4 _ (by omega)); have hr7 := Rs.grown h (hr3.below hb5) hgrow6 (fun q hq => by have := (ho5.lt q hq).1; omega); have hw7 := ((hw.trans ht3).trans (To.of hb5)).grown hgrow6 (fun q hq => by have := (ho5.lt q hq).1; omega); have d5 := B67.b5; have df := B67.bf; have hr8 := h.to hr7 (a := ⟨w.heap.size + 1, 5, none⟩) (Nat.le_succ _) (.slice (some ⟨gg, 0, none⟩) (xs.length + 1) cap); have hw8 := hw7.setNew (a := ⟨w.heap.size + 1, 5, none⟩) (Nat.le_succ _) (.slice (some ⟨gg, 0, none⟩) (xs.length + 1) cap); have H8 := H7.set (a := ⟨w.heap.size + 1, 5, none⟩) (Nat.lt_succ_self _) (.slice (some ⟨gg, 0, none⟩) (xs.length + 1) cap); have B48 := B47.other (a := ⟨w.heap.size + 1, 5, none⟩) (Nat.succ_ne_self _) (.slice (some ⟨gg, 0, none⟩) (xs.length + 1) cap); have B68 := B67.set5 (.slice (some ⟨gg, 0, none⟩) (xs.length + 1) cap))
            | (go_at_call 165; refine (eat1_yes _ r t _ 93 hr8 (by decide) Q93.out).mono ?_; rintro e w9 ⟨rfl, hr9, ht9⟩; obtain ⟨p0, p1, p2, p3, p4, p5, pf⟩ := B48.to ht9 hne; obtain ⟨q0, q1, q2, q3, q4, q5, qf⟩ := B68.to ht9 hne2; have H9 := H8.to ht9 (by omega); have hw9 := hw8.trans ht9))
          exact bodyPost_ret (v := .tuple #[.agg #[.int .i64 6, .int .i64 0, .int .i64 0, .string ⟨#[]⟩, .slice none 0 0, .slice (some ⟨gg, 0, none⟩) (xs.length + 1) cap], .bool true]) (by simp [results, Tryz.results162, go_sem, p0, p1, p2, p3, p4, p5]) rfl
            (valR_hold h hr9 hw9 H9 (by omega) (by simp) (by simp; omega) (by rw [HF.out]; rfl) (fun y k' hy => by rw [HF.out] at hy; cases hy; exact ⟨rfl, rfl⟩) [.int .i64 6, .int .i64 0, .int .i64 0, .string ⟨#[]⟩, .slice none 0 0, .slice (some ⟨gg, 0, none⟩) (xs.length + 1) cap])
        · by_cases q44 : byI t l = 44
          · have HG := Lib.hid (HE2.out q93 q44)
            have hl44 := byI_pos (by decide) q44
            have Q93 := Lib.hid q93
            have Q44 := Lib.hid q44
            clear q93 q44 HE HE2
            have tok2 : True := trivial
            go_wp2_with (first
              | (go_at_call 146; refine (hf _ r t k hr).mono ?_; rintro e w3 ⟨vv, x, j, he, hVI, hr3, ht3, hval⟩; obtain ⟨k', n', m', s', a1, l1, c1', a2, l2, c2', g, rfl, hg, hEV⟩ := hVI.lits; rw [HV.out] at he; subst he; obtain ⟨rfl, rfl⟩ := hval y l HV.out; obtain ⟨b0, b1, b2, b3, b4, b5, bf⟩ := B4.to ht3 hne; obtain ⟨c0, c1, c2, c3, c4, c5, cf⟩ := B6.to ht3 hne2; have bz : w.heap.size < w3.heap.size := (B4.to ht3 hne).lt; have cz : w.heap.size + 1 < w3.heap.size := (B6.to ht3 hne2).lt)
              | (at_builtin; have hb5 : Below w3.heap.size w3 ((w3.alloc (.cells #[.int .i64 k', .int .i64 n', .int .i64 m', .string s', .slice a1 l1 c1', .slice a2 l2 c2'] 184)).alloc (.cells #[.int .i64 k', .int .i64 n', .int .i64 m', .string s', .slice a1 l1 c1', .slice a2 l2 c2'] 184)) := ((Below.refl _ w3).alloc (Nat.le_refl _) _).alloc (by simp) _; have H5 := (HH.to ht3 (by omega)).below hb5; obtain ⟨fs, hfl, ho5, he5⟩ := H5.items; refine wpList_append_lies _ rfl (.tmp 32) (.tmp 34) 182 rfl (w.heap.size + 2) 184 i0 (.agg #[.int .i64 0, .int .i64 0, .int .i64 0, .string ⟨#[]⟩, .slice none 0 0, .slice none 0 0]) 6 88 Tryz.underlying182 hi0 hz0 hz1 hz2 rfl (by decide) v xs.length (fs.flatMap c6) rfl ho5 ⟨_, 0, none⟩ 1 1 [.int .i64 k', .int .i64 n', .int .i64 m', .string s', .slice a1 l1 c1', .slice a2 l2 c2'] rfl rfl (World.news_of_block (new_block (by simp) _ _)) (hg ▸ EV.one (.inl ⟨rfl, rfl⟩) hEV) (by decide) (by unfold maxLen; omega) (by omega) (by simp <;> omega) _ rfl ?_; intro gg cap w6 hown6 hgrow6 hat6 hlt6; have hgrow6 : World.grownBy _ w6 v.ownBlock := hgrow6; have hat6 : v.ownBlock = some gg ∨ gg = _ := hat6; rw [← hg] at hown6; have H7 := Hold.item H5 hfl ho5 he5 hown6 hgrow6 hat6 hlt6 (Hold.fresh HH hzw hEV hb5); have hv4 : ∀ q, q < w.heap.size + 2 → v.ownBlock ≠ some q := fun q hq e => (by have := (ho5.lt q e).1; omega); have B47 := ((B4.to ht3 hne).to (To.of (r := r) hb5) hne).grown hgrow6 (hv4 _ (by omega)); have B67 := ((B6.to ht3 hne2).to (To.of (r := r) hb5) hne2).grown hgrow6 (hv4 _ (by omega)); have hr7 := Rs.grown h (hr3.below hb5) hgrow6 (fun q hq => by have := (ho5.lt q hq).1; omega); have hw7 := ((hw.trans ht3).trans (To.of hb5)).grown hgrow6 (fun q hq => by have := (ho5.lt q hq).1; omega); have d5 := B67.b5; have df := B67.bf; have hr8 := h.to hr7 (a := ⟨w.heap.size + 1, 5, none⟩) (Nat.le_succ _) (.slice (some ⟨gg, 0, none⟩) (xs.length + 1) cap); have hw8 := hw7.setNew (a := ⟨w.heap.size + 1, 5, none⟩) (Nat.le_succ _) (.slice (some ⟨gg, 0, none⟩) (xs.length + 1) cap); have H8 := H7.set (a := ⟨w.heap.size + 1, 5, none⟩) (Nat.lt_succ_self _) (.slice (some ⟨gg, 0, none⟩) (xs.length + 1) cap); have B48 := B47.other (a := ⟨w.heap.size + 1, 5, none⟩) (Nat.succ_ne_self _) (.slice (some ⟨gg, 0, none⟩) (xs.length + 1) cap); have B68 := B67.set5 (.slice (some ⟨gg, 0, none⟩) (xs.length + 1) cap))
              | (go_at_call 165; clear tok2; refine (eat1_no _ r t _ 93 hr8 (by decide) Q93.out).mono ?_; rintro e w9 ⟨rfl, hr9, ht9⟩; have B49 := B48.to ht9 hne; have B69 := B68.to ht9 hne2; have H9 := H8.to ht9 (by omega); have hw9 := hw8.trans ht9)
              | (go_at_call 165; refine (eat1_yes _ r t _ 44 hr9 (by decide) Q44.out).mono ?_; rintro e w10 ⟨rfl, hr10, ht10⟩; have B410 := B49.to ht10 hne; have B610 := B69.to ht10 hne2; have H10 := H9.to ht10 (by omega); have hw10 := hw9.trans ht10; obtain ⟨p0, p1, p2, p3, p4, p5, pf⟩ := B49.to ht10 hne; obtain ⟨q0, q1, q2, q3, q4, q5, qf⟩ := B69.to ht10 hne2))
            have hm1 := hr10.lef
            have hm2 := hr.lef
            go_roundw
            case rel => exact ⟨j + 1, xs ++ [x], _, by simp; omega, hl44, HR.out.trans HG.out, hr10, hw10, by simpa using H10, B410, B610, B610.lt⟩
            case measure => omega
          · have HF : Hid (pList f t i = none) := Lib.hid (by rw [HE.out, if_neg q93, if_neg q44])
            have Q93 := Lib.hid q93
            have Q44 := Lib.hid q44
            clear q93 q44 HE HE2
            have tok2 : True := trivial
            go_wp2_with (first
              | (go_at_call 146; refine (hf _ r t k hr).mono ?_; rintro e w3 ⟨vv, x, j, he, hVI, hr3, ht3, hval⟩; obtain ⟨k', n', m', s', a1, l1, c1', a2, l2, c2', g, rfl, hg, hEV⟩ := hVI.lits; rw [HV.out] at he; subst he; obtain ⟨rfl, rfl⟩ := hval y l HV.out; obtain ⟨b0, b1, b2, b3, b4, b5, bf⟩ := B4.to ht3 hne; obtain ⟨c0, c1, c2, c3, c4, c5, cf⟩ := B6.to ht3 hne2; have bz : w.heap.size < w3.heap.size := (B4.to ht3 hne).lt; have cz : w.heap.size + 1 < w3.heap.size := (B6.to ht3 hne2).lt)
              | (at_builtin; have hb5 : Below w3.heap.size w3 ((w3.alloc (.cells #[.int .i64 k', .int .i64 n', .int .i64 m', .string s', .slice a1 l1 c1', .slice a2 l2 c2'] 184)).alloc (.cells #[.int .i64 k', .int .i64 n', .int .i64 m', .string s', .slice a1 l1 c1', .slice a2 l2 c2'] 184)) := ((Below.refl _ w3).alloc (Nat.le_refl _) _).alloc (by simp) _; have H5 := (HH.to ht3 (by omega)).below hb5; obtain ⟨fs, hfl, ho5, he5⟩ := H5.items; refine wpList_append_lies _ rfl (.tmp 32) (.tmp 34) 182 rfl (w.heap.size + 2) 184 i0 (.agg #[.int .i64 0, .int .i64 0, .int .i64 0, .string ⟨#[]⟩, .slice none 0 0, .slice none 0 0]) 6 88 Tryz.underlying182 hi0 hz0 hz1 hz2 rfl (by decide) v xs.length (fs.flatMap c6) rfl ho5 ⟨_, 0, none⟩ 1 1 [.int .i64 k', .int .i64 n', .int .i64 m', .string s', .slice a1 l1 c1', .slice a2 l2 c2'] rfl rfl (World.news_of_block (new_block (by simp) _ _)) (hg ▸ EV.one (.inl ⟨rfl, rfl⟩) hEV) (by decide) (by unfold maxLen; omega) (by omega) (by simp <;> omega) _ rfl ?_; intro gg cap w6 hown6 hgrow6 hat6 hlt6; have hgrow6 : World.grownBy _ w6 v.ownBlock := hgrow6; have hat6 : v.ownBlock = some gg ∨ gg = _ := hat6; rw [← hg] at hown6; have H7 := Hold.item H5 hfl ho5 he5 hown6 hgrow6 hat6 hlt6 (Hold.fresh HH hzw hEV hb5); have hv4 : ∀ q, q < w.heap.size + 2 → v.ownBlock ≠ some q := fun q hq e => (by have := (ho5.lt q e).1; omega); have B47 := ((B4.to ht3 hne).to (To.of (r := r) hb5) hne).grown hgrow6 (hv4 _ (by omega)); have B67 := ((B6.to ht3 hne2).to (To.of (r := r) hb5) hne2).grown hgrow6 (hv4 _ (by omega)); have hr7 := Rs.grown h (hr3.below hb5) hgrow6 (fun q hq => by have := (ho5.lt q hq).1; omega); have hw7 := ((hw.trans ht3).trans (To.of hb5)).grown hgrow6 (fun q hq => by have := (ho5.lt q hq).1; omega); have d5 := B67.b5; have df := B67.bf; have hr8 := h.to hr7 (a := ⟨w.heap.size + 1, 5, none⟩) (Nat.le_succ _) (.slice (some ⟨gg, 0, none⟩) (xs.length + 1) cap); have hw8 := hw7.setNew (a := ⟨w.heap.size + 1, 5, none⟩) (Nat.le_succ _) (.slice (some ⟨gg, 0, none⟩) (xs.length + 1) cap); have H8 := H7.set (a := ⟨w.heap.size + 1, 5, none⟩) (Nat.lt_succ_self _) (.slice (some ⟨gg, 0, none⟩) (xs.length + 1) cap); have B48 := B47.other (a := ⟨w.heap.size + 1, 5, none⟩) (Nat.succ_ne_self _) (.slice (some ⟨gg, 0, none⟩) (xs.length + 1) cap); have B68 := B67.set5 (.slice (some ⟨gg, 0, none⟩) (xs.length + 1) cap))
              | (go_at_call 165; clear tok2; refine (eat1_no _ r t _ 93 hr8 (by decide) Q93.out).mono ?_; rintro e w9 ⟨rfl, hr9, ht9⟩; have B49 := B48.to ht9 hne; have B69 := B68.to ht9 hne2; have H9 := H8.to ht9 (by omega); have hw9 := hw8.trans ht9)
              | (go_at_call 165; refine (eat1_no _ r t _ 44 hr9 (by decide) Q44.out).mono ?_; rintro e w10 ⟨rfl, hr10, ht10⟩; have B410 := B49.to ht10 hne; have B610 := B69.to ht10 hne2; have H10 := H9.to ht10 (by omega); have hw10 := hw9.trans ht10; obtain ⟨p0, p1, p2, p3, p4, p5, pf⟩ := B49.to ht10 hne; obtain ⟨q0, q1, q2, q3, q4, q5, qf⟩ := B69.to ht10 hne2))
            exact bodyPost_ret (v := .tuple #[.agg #[.int .i64 6, .int .i64 0, .int .i64 0, .string ⟨#[]⟩, .slice none 0 0, .slice (some ⟨gg, 0, none⟩) (xs.length + 1) cap], .bool false]) (by simp [results, Tryz.results162, go_sem, p0, p1, p2, p3, p4, p5]) rfl
              (valR_hold h hr10 hw10 H10 (by omega) (by simp) (by simp; omega) (by rw [HF.out]; rfl) (fun y k' hy => by rw [HF.out] at hy; cases hy) [.int .i64 6, .int .i64 0, .int .i64 0, .string ⟨#[]⟩, .slice none 0 0, .slice (some ⟨gg, 0, none⟩) (xs.length + 1) cap])

end Go.Proofs.YtllhimeffkefiaaGreatDoor
