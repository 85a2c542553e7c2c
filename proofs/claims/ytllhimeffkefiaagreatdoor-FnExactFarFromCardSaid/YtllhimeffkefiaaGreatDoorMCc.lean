/- Texts of one proof, joined in their order: each bears its own word of what it holds and on what condition. -/
import Derived.Test.YtllhimeffkefiaaGreatDoorMCb
set_option linter.unusedVariables false
set_option linter.unusedSimpArgs false
/- The specification's circle of one node. Condition: the table is of the links one way. -/
set_option linter.unusedVariables false
set_option linter.unusedSimpArgs false
namespace Go.Proofs.YtllhimeffkefiaaGreatDoor
open Go.RowKit Go.Sort

/-- the least number, among the places ahead of k; -1: none -/
def MinI (M : Nat → Nat → Bool) (f : Nat) (far : Nat → Int) (k : Nat) (m : Int) : Prop :=
  (m = -1 ∧ ∀ j, j < k → f ≤ j → M f j = true → far j < 0) ∨
  (∃ j, j < k ∧ f ≤ j ∧ M f j = true ∧ 0 ≤ far j ∧ m = far j + 1) ∧ ∀ j, j < k → f ≤ j → M f j = true → 0 ≤ far j → m ≤ far j + 1
theorem MinI.start (M : Nat → Nat → Bool) (f : Nat) (far : Nat → Int) : MinI M f far f (-1) := .inl ⟨rfl, fun j h1 h2 => by omega⟩
theorem MinI.skip {M : Nat → Nat → Bool} {f : Nat} {far : Nat → Int} {k : Nat} {m : Int} (h : MinI M f far k m) (hn : M f k = true → 0 ≤ far k → 0 ≤ m ∧ m ≤ far k + 1) : MinI M f far (k + 1) m := by
  rcases h with ⟨rfl, h⟩ | ⟨⟨j, h1, h2, h3, h4, h5⟩, h⟩
  · refine .inl ⟨rfl, fun j hj hf hm => ?_⟩
    by_cases e : j = k
    · subst e
      by_cases z : 0 ≤ far j
      · have := (hn hm z).1; omega
      · omega
    · exact h j (by omega) hf hm
  · refine .inr ⟨⟨j, by omega, h2, h3, h4, h5⟩, fun j' hj hf hm h0 => ?_⟩
    by_cases e : j' = k
    · subst e; exact (hn hm h0).2
    · exact h j' (by omega) hf hm h0
theorem MinI.take {M : Nat → Nat → Bool} {f : Nat} {far : Nat → Int} {k : Nat} {m : Int} (h : MinI M f far k m) (hf : f ≤ k) (hm : M f k = true) (h0 : 0 ≤ far k) (hl : m < 0 ∨ far k + 1 < m) : MinI M f far (k + 1) (far k + 1) := by
  refine .inr ⟨⟨k, by omega, hf, hm, h0, rfl⟩, fun j hj hfj hmj h0j => ?_⟩
  by_cases e : j = k
  · subst e; exact Int.le_refl _
  · rcases h with ⟨rfl, h⟩ | ⟨⟨j', _, _, _, h4, h5⟩, h⟩
    · have := h j (by omega) hfj hmj; omega
    · have := h j (by omega) hfj hmj h0j
      rcases hl with hl | hl
      · omega
      · omega
theorem MinI.val {M : Nat → Nat → Bool} {f : Nat} {far : Nat → Int} {k : Nat} {m : Int} (h : MinI M f far k m) : m = -1 ∨ 1 ≤ m := by
  rcases h with ⟨rfl, _⟩ | ⟨⟨j, _, _, _, h4, rfl⟩, _⟩
  · exact .inl rfl
  · exact .inr (by omega)
theorem MinI.none {g : Gr} (h : Gw g) {f : Nat} {hf : f < g.nodes.length} {far : Nat → Int} (hF : FarA g f hf far) (hm : MinI (lnkd g.nodes g.edges) f far g.nodes.length (-1)) (L : List Int) : ¬ Cyc g.edges g.nodes[f].id L := by
  rintro ⟨n, x, ⟨⟨u, d, h1, h2, _⟩, _⟩, _⟩
  obtain ⟨j, hj, _, rfl⟩ := gOk_pos h (arc_in h h1.1).2
  have hfj := h2.ge' h hf hj
  have e := (hF.1 j hj d).2 h2
  rcases hm with ⟨_, hm⟩ | ⟨⟨j', _, _, _, h4, h5⟩, _⟩
  · have := hm j hj hfj ((lnkd_iff h hf hj).2 h1.1); omega
  · omega
theorem MinI.cmin {g : Gr} (h : Gw g) {f : Nat} {hf : f < g.nodes.length} {far : Nat → Int} (hF : FarA g f hf far) {n : Nat} (hn : 0 < n) (hm : MinI (lnkd g.nodes g.edges) f far g.nodes.length (n : Int)) : CMin g.edges g.nodes[f].id n := by
  rcases hm with ⟨e, _⟩ | ⟨⟨j, hj, hfj, h3, h4, h5⟩, hmin⟩
  · omega
  · have ej : far j = ((n - 1 : Nat) : Int) := by omega
    have hb := (hF.1 j hj (n - 1)).1 ej
    refine ⟨⟨g.nodes[j].id, n - 1, ⟨(lnkd_iff h hf hj).1 h3, Int.le_refl _, hb.ge⟩, hb, by omega⟩, fun u d h1 h2 => ?_⟩
    obtain ⟨j', hj', _, rfl⟩ := gOk_pos h (arc_in h h1.1).2
    have hfj' := h2.ge' h hf hj'
    have e := (hF.1 j' hj' d).2 h2
    have := hmin j' hj' hfj' ((lnkd_iff h hf hj').2 h1.1) (by omega)
    omega
/-- places, as Ids -/
def idAt (g : Gr) (p : Nat) : Int := (g.nodes.getD p n0).id
theorem idAt_eq {g : Gr} {p : Nat} (hp : p < g.nodes.length) : idAt g p = g.nodes[p].id := by unfold idAt; rw [getD_eq hp]
def idsP (g : Gr) (P : List Nat) : List Int := P.map (idAt g)
/-- the next place is the least one that is one edge nearer -/
theorem stp_place {g : Gr} (h : Gw g) {f : Nat} {hf : f < g.nodes.length} {far : Nat → Int} (hF : FarA g f hf far) {x k left : Nat} (hx : x < g.nodes.length) (hk : k < g.nodes.length) (hfx : f ≤ x) (hfk : f ≤ k) (hm : lnkd g.nodes g.edges x k = true) (hl : far k = (left : Int)) (hmin : ∀ j, j < k → f ≤ j → ¬ (lnkd g.nodes g.edges x j = true ∧ far j = (left : Int))) : Stp g.edges g.nodes[f].id g.nodes[x].id left g.nodes[k].id := by
  refine ⟨⟨(lnkd_iff h hx hk).1 hm, id_le h hf hx hfx, id_le h hf hk hfk⟩, (hF.1 k hk left).1 hl, fun u' r q => ?_⟩
  obtain ⟨j, hj, _, rfl⟩ := gOk_pos h (arc_in h r.1).2
  have hfj := q.ge' h hf hj
  have : k ≤ j := by
    by_cases z : j < k
    · exact absurd ⟨(lnkd_iff h hx hj).2 r.1, (hF.1 j hj left).2 q⟩ (hmin j z hfj)
    · omega
  exact id_le h hk hj this
theorem chn_last_place {g : Gr} {f : Nat} {hf : f < g.nodes.length} {n left : Nat} {P : List Nat} {x : Int} (hc : Chn g.edges g.nodes[f].id n left (idsP g P) x) : 0 < P.length := by
  obtain ⟨L', e⟩ := hc.last
  unfold idsP at e
  cases P with
  | nil => simp at e
  | cons a P => simp
def CirP (g : Gr) (f : Nat) (hf : f < g.nodes.length) (P : List Nat) : Prop := (P = [] ∧ ∀ L, ¬ Cyc g.edges g.nodes[f].id L) ∨ Cyc g.edges g.nodes[f].id (idsP g P)
def CirR (g : Gr) (f : Nat) (hf : f < g.nodes.length) (w : World) (e : Ending) (w' : World) : Prop := ∃ (v : Value) (P : List Nat), e = .returned v ∧ w'.ownsRow w.heap.size 3 1 v P.length (P.map fun p : Nat => Value.int .i64 p) ∧ (∀ p ∈ P, p < g.nodes.length) ∧ CirP g f hf P ∧ Below w.heap.size w w'
theorem own_lower {w : World} {base base' : Nat} {e : TypeId} {sz : Nat} {v : Value} {n : Nat} {xs : List Value} (h : w.ownsRow base e sz v n xs) (hb : base' ≤ base) : w.ownsRow base' e sz v n xs := by
  refine ⟨h.1, ?_⟩
  rcases h.2 with hn | ⟨g, cap, cur, he, hg, rest⟩
  · exact .inl hn
  · exact .inr ⟨g, cap, cur, he, Nat.le_trans hb hg, rest⟩
set_option maxHeartbeats 4000000 in
set_option maxRecDepth 100000 in
theorem scircle_any (w : World) (g : Gr) (hw : Gw g) (gO cO : Nat) (gs : Nat → Nat) (hM : Lkt w gO g.nodes.length gs (lnkd g.nodes g.edges)) (f : Nat) (hf : f < g.nodes.length) :
    Calls Tryz.prog 47 #[.agg #[.slice (some ⟨gO, 0, none⟩) g.nodes.length cO], .int .i64 f] w (CirR g f hf w) := by
  have hn := hw.n
  have hba := (Below.refl _ w).alloc (Nat.le_refl _) (.cells #[.slice (some ⟨gO, 0, none⟩) g.nodes.length cO] 66)
  have x0 : (w.alloc (.cells #[.slice (some ⟨gO, 0, none⟩) g.nodes.length cO] 66)).cell? ⟨w.heap.size, 0, none⟩ = some (.slice (some ⟨gO, 0, none⟩) g.nodes.length cO) := by rw [World.cell?_alloc_mark]; rfl
  have hcl := back_any (w.alloc (.cells #[.slice (some ⟨gO, 0, none⟩) g.nodes.length cO] 66)) g hw gO cO gs (hM.below hba) f hf
  unfold BackR at hcl
  obtain ⟨n, hne⟩ : ∃ n, g.nodes.length = n := ⟨_, rfl⟩
  have HN := Lib.hid hne
  rw [hne] at hn hM hcl x0 hba
  rw [hne]
  have hf2 : f < n := by omega
  have hfI : (f : Int) < n := by omega
  have hnI : (n : Int) ≤ 200 := by omega
  clear hne
  obtain ⟨i0, hi0, hz0, hz1, hz2⟩ := info_parts (show (Tryz.prog.info? 3).map (fun i => (i.zero, i.size, i.bytes)) = some (some (.int .i64 0), 1, 8) by kernel_rfl)
  go_enter Tryz.func47, Tryz.ntmps47
  go_upto_region 3 with (go_at_call 81; refine hcl.mono ?_; rintro e w1 ⟨gF, far, rfl, hgF, hcF, hFA, hb1⟩)
  have q0 := cell_kept (fun hl => hb1.block _ hl) x0
  have hbW : Below w.heap.size w w1 := hba.trans (hb1.mono hba.size)
  have hM1 := hM.below hbW
  have hgFw : w.heap.size ≤ gF := Nat.le_trans hba.size hgF
  obtain ⟨bb, hbb⟩ : ∃ b, w.heap.size = b := ⟨_, rfl⟩
  rw [hbb] at q0
  simp only [hbb]
  have HBB := Lib.hid hbb
  have hbl := lt_of_cell q0
  have hbw1 : w.heap.size ≤ w1.heap.size := hbW.size
  have HCF := Lib.hid hcF
  clear hcl hba x0 hb1 hgF hbb hcF
  go_upto_region 4 with fail
  go_loopw [6, 7] (fun nv kv wr => ∃ (k : Nat) (m : Int), f ≤ k ∧ k ≤ n ∧ kv = .int .i64 k ∧ nv = .int .i64 m ∧ wr = w1 ∧ MinI (lnkd g.nodes g.edges) f far k m ∧ m ≤ 200) (fun _ kv _ => n - (intOf kv).toNat)
  case atStart => exact ⟨f, -1, Nat.le_refl _, by omega, rfl, by first | rfl | go_num, rfl, MinI.start _ _ _, by omega⟩
  case round =>
    obtain ⟨k, m, hfk, hk, rfl, rfl, rfl, hmi, hm200⟩ := hrel
    have hval := hmi.val
    by_cases hlt : k < n
    · have f0 : decide ((k : Int) < n) = true := decide_eq_true (by omega)
      have f0' : decide (k < n) = true := decide_eq_true hlt
      have hlt2 : (k : Int) < n := by omega
      have z1 := hM1.row f hf2
      unfold rowV at z1
      have z2 := hM1.cell f hf2 k hlt
      have z3 := HCF.out k hlt
      have hrng := hFA.2 k (by rw [HN.out]; exact hlt)
      have hskip := hmi.skip
      have htake := hmi.take hfk
      rw [HN.out] at hrng
      obtain ⟨x, hx⟩ : ∃ x, far k = x := ⟨_, rfl⟩
      rw [hx] at z3 hrng hskip htake
      have hx200 : x ≤ 199 := by rcases hrng with e | ⟨q, h1, h2⟩ <;> omega
      have hx0 : -1 ≤ x := by rcases hrng with e | ⟨q, h1, h2⟩ <;> omega
      clear hx hrng
      cases hm : lnkd g.nodes g.edges f k with
      | false =>
        rw [hm] at z2
        have hN := hskip (fun q => by rw [hm] at q; cases q)
        clear hskip htake hm
        go_wp2_with fail
        go_round
        case rel => exact ⟨k + 1, m, by omega, by omega, by go_num, rfl, by first | rfl | trivial, hN, hm200⟩
        case measure => first | (simp [intOf]; done) | (simp [intOf]; omega)
      | true =>
        rw [hm] at z2
        by_cases hx1 : 0 ≤ x
        · have m0 : decide (0 ≤ x) = true := decide_eq_true hx1
          by_cases hm0 : m < 0
          · have m1 : decide (m < 0) = true := decide_eq_true hm0
            have hN := htake hm hx1 (.inl hm0)
            clear hskip htake hm
            go_wp2_with fail
            go_round
            case rel => exact ⟨k + 1, x + 1, by omega, by omega, by go_num, by first | rfl | go_num, by first | rfl | trivial, hN, by omega⟩
            case measure => first | (simp [intOf]; done) | (simp [intOf]; omega)
          · have m1 : decide (m < 0) = false := decide_eq_false hm0
            by_cases hxm : x + 1 < m
            · have m2 : decide (x + 1 < m) = true := decide_eq_true hxm
              have hN := htake hm hx1 (.inr hxm)
              clear hskip htake hm
              go_wp2_with fail
              go_round
              case rel => exact ⟨k + 1, x + 1, by omega, by omega, by go_num, by first | rfl | go_num, by first | rfl | trivial, hN, by omega⟩
              case measure => first | (simp [intOf]; done) | (simp [intOf]; omega)
            · have m2 : decide (x + 1 < m) = false := decide_eq_false hxm
              have hN := hskip (fun _ _ => by omega)
              clear hskip htake hm
              go_wp2_with fail
              go_round
              case rel => exact ⟨k + 1, m, by omega, by omega, by go_num, rfl, by first | rfl | trivial, hN, hm200⟩
              case measure => first | (simp [intOf]; done) | (simp [intOf]; omega)
        · have m0 : decide (0 ≤ x) = false := decide_eq_false hx1
          have hN := hskip (fun _ q => absurd q hx1)
          clear hskip htake hm
          go_wp2_with fail
          go_round
          case rel => exact ⟨k + 1, m, by omega, by omega, by go_num, rfl, by first | rfl | trivial, hN, hm200⟩
          case measure => first | (simp [intOf]; done) | (simp [intOf]; omega)
    · have hk3 : k = n := by omega
      subst hk3
      have f0 : decide ((k : Int) < k) = false := decide_eq_false (by omega)
      have hmi2 : MinI (lnkd g.nodes g.edges) f far g.nodes.length m := by rw [HN.out]; exact hmi
      rcases hval with e | hpos
      · subst e
        have hno := hmi2.none hw hFA
        go_wp2_with fail
        go_ret
        have hbE := hbW.alloc hbW.size (.cells #[] 3)
        exact ⟨_, [], rfl, ⟨rfl, .inr ⟨_, 0, #[], rfl, hbW.size, heap_alloc_new _ _, by simp, by unfold maxLen; simp, rfl, rfl⟩⟩, by simp, .inl ⟨rfl, hno⟩, hbE⟩
      · obtain ⟨mn, rfl⟩ : ∃ q : Nat, m = q := ⟨m.toNat, by omega⟩
        have hcm := hmi2.cmin hw hFA (n := mn) (by omega)
        have m0 : decide ((mn : Int) < 0) = false := decide_eq_false (by omega)
        have hw2 : IntKind.i64.wrap ((mn : Int) - 1) = ((mn - 1 : Nat) : Int) := by rw [show (mn : Int) - 1 = ((mn - 1 : Nat) : Int) by omega]; exact wrap64_of _ (by omega) (by omega)
        obtain ⟨Wq, rfl⟩ : ∃ W, W = wr := ⟨wr, rfl⟩
        have hb2 := (Below.refl _ Wq).alloc (Nat.le_refl _) (.cells #[.int .i64 f] 3)
        have hown0 : (Wq.alloc (.cells #[.int .i64 f] 3)).ownsRow Wq.heap.size 3 1 (.slice (some ⟨Wq.heap.size, 0, none⟩) 1 1) (([] : List Nat).length + 1) ((([] : List Nat).map fun p : Nat => Value.int .i64 p) ++ [.int .i64 f]) := ⟨rfl, .inr ⟨Wq.heap.size, 1, #[.int .i64 f], rfl, Nat.le_refl _, heap_alloc_new Wq _, by simp, by unfold maxLen; simp, rfl, rfl⟩⟩
        have hch0 : Chn g.edges g.nodes[f].id mn (mn - 1) (idsP g ([] ++ [f])) (idAt g f) := by
          rw [idAt_eq hf]
          show Chn _ _ _ _ [idAt g f] _
          rw [idAt_eq hf]
          exact Chn.start
        clear hmi hmi2 hlt
        go_upto_region 11 with fail
        generalize Wq.alloc (.cells #[.int .i64 f] 3) = W2 at hb2 hown0 ⊢
        go_upto_region 12 with fail
        go_loopw [8, 9, 10] (fun yv lv _ w3 => ∃ (left : Nat) (P : List Nat) (x : Nat), lv = .int .i64 left ∧ Below Wq.heap.size Wq w3 ∧ w3.ownsRow Wq.heap.size 3 1 yv (P.length + 1) ((P.map fun p : Nat => Value.int .i64 p) ++ [.int .i64 x]) ∧ (∀ p ∈ P ++ [x], f ≤ p ∧ p < k) ∧ Chn g.edges g.nodes[f].id mn left (idsP g (P ++ [x])) (idAt g x)) (fun _ lv _ _ => (intOf lv).toNat)
        case atStart => exact ⟨mn - 1, [], f, by first | rfl | go_num, hb2, hown0, fun p hp => by simp at hp; omega, hch0⟩
        case round =>
          clear hb2 hown0 hch0
          obtain ⟨left, P, x, rfl, hb, hown, hP, hch⟩ := hrel
          have hleft := hch.le
          have hlen := hch.len (by omega)
          have hPl : P.length ≤ 200 := by unfold idsP at hlen; simp at hlen; omega
          cases left with
          | zero =>
            have hcyc : Cyc g.edges g.nodes[f].id (idsP g (P ++ [x])) := ⟨mn, _, hcm, hch⟩
            have hown2 : wr.ownsRow w.heap.size 3 1 u8 (P ++ [x]).length ((P ++ [x]).map fun p : Nat => Value.int .i64 p) := by
              rw [List.length_append, List.map_append]
              exact own_lower hown hbW.size
            go_wp2_with fail
            go_ret
            exact ⟨_, P ++ [x], rfl, hown2, fun p hp => by rw [HN.out]; exact (hP p hp).2, .inr hcyc, hbW.trans (hb.mono hbW.size)⟩
          | succ l =>
            obtain ⟨hfx, hxn⟩ := hP x (by simp)
            have hxg : x < g.nodes.length := by rw [HN.out]; exact hxn
            obtain ⟨u, hu1, hu2⟩ := hch.at hcm
            rw [idAt_eq hxg] at hu1 hch
            have k0 : decide ((0 : Int) < ((l + 1 : Nat) : Int)) = true := decide_eq_true (by omega)
            obtain ⟨l1, hl1⟩ : ∃ q, l + 1 = q := ⟨_, rfl⟩
            rw [hl1] at hu2 hch hleft k0
            simp only [hl1]
            have HL1 := Lib.hid hl1
            have hw3 : IntKind.i64.wrap ((l1 : Int) - 1) = (l : Int) := by rw [show (l1 : Int) - 1 = l by omega]; exact wrap64_of _ (by omega) (by omega)
            have k0' : (0 : Int) < l1 := by omega
            obtain ⟨gy, cy, rfl, hlast, hcap⟩ := own_last hown (by simp)
            have hPlI : (P.length : Int) ≤ 200 := by omega
            clear hl1
            go_upto_region 14 with fail
            go_wp2_with fail
            go_loopw [8, 10] (fun yv kv w3 => ∃ j : Nat, f ≤ j ∧ j ≤ k ∧ kv = .int .i64 j ∧ yv = .slice (some ⟨gy, 0, none⟩) (P.length + 1) cy ∧ Below wr.heap.size wr w3 ∧ ∀ i, i < j → f ≤ i → ¬ (lnkd g.nodes g.edges x i = true ∧ far i = (l1 : Int))) (fun _ kv _ => k - (intOf kv).toNat)
            case atStart => exact ⟨f, Nat.le_refl _, by omega, rfl, rfl, Below.refl _ _, fun i h1 h2 => by omega⟩
            case round =>
              obtain ⟨j, hfj, hj, rfl, rfl, hb3, hno⟩ := hrel
              by_cases hltj : j < k
              · have m0' : decide ((j : Int) < k) = true := decide_eq_true (by omega)
                have m0'' : decide (j < k) = true := decide_eq_true hltj
                have m9 : (j : Int) < k := by omega
                have hb0 : Below Wq.heap.size Wq wr := hb.trans (hb3.mono hb.size)
                have hjg : j < g.nodes.length := by rw [HN.out]; exact hltj
                have hM3 := hM1.below hb0
                have z0 := cell_kept (fun hl => hb0.block _ hl) q0
                have z1 := hM3.row x hxn
                unfold rowV at z1
                have z2 := hM3.cell x hxn j hltj
                have z3 := cell_kept (fun hl => hb0.block _ hl) (HCF.out j hltj)
                have z4 := cell_kept (fun hl => hb3.block _ hl) hlast
                have e1 : ((P.length : Int) + 1 - 1) = P.length := by omega
                have e2 : ((P.length : Int) + 1 - 1).toNat = P.length := by omega
                have hxI : (x : Int) < k := by omega
                obtain ⟨y, hy⟩ : ∃ y, far j = y := ⟨_, rfl⟩
                rw [hy] at z3
                have HY := Lib.hid hy
                clear hy hM3
                cases hm : lnkd g.nodes g.edges x j with
                | false =>
                  rw [hm] at z2
                  have hno2 : ∀ i, i < j + 1 → f ≤ i → ¬ (lnkd g.nodes g.edges x i = true ∧ far i = (l1 : Int)) := fun i h1 h2 q => by
                    by_cases e : i = j
                    · rw [e, hm] at q; cases q.1
                    · exact hno i (by omega) h2 q
                  clear hno hm
                  go_wp2_with fail
                  go_big_quiet (fail)
                  go_wp2_with fail
                  go_round
                  case rel => exact ⟨j + 1, by omega, by omega, by go_num, rfl, hb3.trans ((drewN_below _ nq).mono hb3.size), hno2⟩
                  case measure => first | (simp [intOf]; done) | (simp [intOf]; omega)
                | true =>
                  rw [hm] at z2
                  by_cases hyl : y = l1
                  · have n0 : decide (y = (l1 : Int)) = true := decide_eq_true hyl
                    have n0' : (y == (l1 : Int)) = true := by rw [beq_iff_eq]; exact hyl
                    have hstp := stp_place hw hFA hxg hjg hfx hfj hm (by rw [HY.out]; exact hyl) hno
                    have hch2 : Chn g.edges g.nodes[f].id mn l (idsP g ((P ++ [x]) ++ [j])) (idAt g j) := by
                      unfold idsP
                      rw [List.map_append]
                      show Chn _ _ _ _ (_ ++ [idAt g j]) _
                      rw [idAt_eq hjg]
                      refine Chn.step (x := g.nodes[x].id) ?_ ?_
                      · rw [HL1.out]; exact hch
                      · rw [HL1.out]; exact hstp
                    have HCH := Lib.hid hch2
                    have hown3 := own_kept hown (fun b _ hl => hb3.block b hl)
                    have hsz3 : Wq.heap.size ≤ wr.heap.size := hb0.size
                    clear hno hm hstp hch2
                    go_wp2_with fail
                    go_big_quiet (fail)
                    have hbD : Below Wq.heap.size Wq (wr.drewN nq) := hb0.trans ((drewN_below wr nq).mono hb0.size)
                    have hownD : (wr.drewN nq).ownsRow Wq.heap.size 3 1 (.slice (some ⟨gy, 0, none⟩) (P.length + 1) cy) (P.length + 1) ((P.map fun p : Nat => Value.int .i64 p) ++ [.int .i64 x]) := own_kept hown3 (fun b _ hl => (drewN_below wr nq).block b hl)
                    have hszD := hbD.size
                    go_wp2_with (at_builtin; refine wpList_append_lies _ rfl (.tmp 93) (.tmp 95) 84 rfl Wq.heap.size 3 i0 (.int .i64 0) 1 8 Tryz.underlying84 hi0 hz0 hz1 hz2 rfl (by decide) _ (P.length + 1) ((P.map fun p : Nat => Value.int .i64 p) ++ [.int .i64 x]) rfl (hownD.alloc _) ⟨_, 0, none⟩ 1 1 [.int .i64 j] rfl rfl (new_cells (by simp) _ _) (by intro u hu; simp at hu; subst hu; rfl) (by decide) (by unfold maxLen; omega) (by omega) (by simp; omega) _ rfl ?_; intro gg cap w9 hown9 hgrow9 hat9 hlt9)
                    have hb9 : Below Wq.heap.size Wq w9 := (hbD.alloc hszD _).grown hgrow9 (by simp; omega) (fun q hq => (hownD.lt q hq).1)
                    have hown9' : w9.ownsRow Wq.heap.size 3 1 (.slice (some ⟨gg, 0, none⟩) (P.length + 1 + 1) cap) ((P ++ [x]).length + 1) (((P ++ [x]).map fun p : Nat => Value.int .i64 p) ++ [.int .i64 j]) := by
                      rw [List.length_append, List.map_append]
                      exact hown9
                    have hP9 : ∀ p ∈ (P ++ [x]) ++ [j], f ≤ p ∧ p < k := fun p hp => by
                      rw [List.mem_append, List.mem_singleton] at hp
                      rcases hp with hp | rfl
                      · exact hP p hp
                      · exact ⟨hfj, hltj⟩
                    go_round
                    case rel => exact ⟨l, P ++ [x], j, by first | rfl | go_num, hb9, hown9', hP9, HCH.out⟩
                    case measure => have := HL1.out; first | (simp [intOf]; done) | (simp [intOf]; omega)
                  · have n0 : decide (y = (l1 : Int)) = false := decide_eq_false hyl
                    have n0' : (y == (l1 : Int)) = false := by rw [beq_eq_false_iff_ne]; exact hyl
                    have hno2 : ∀ i, i < j + 1 → f ≤ i → ¬ (lnkd g.nodes g.edges x i = true ∧ far i = (l1 : Int)) := fun i h1 h2 q => by
                      by_cases e : i = j
                      · rw [e, HY.out] at q; exact hyl q.2
                      · exact hno i (by omega) h2 q
                    clear hno hm
                    go_wp2_with fail
                    go_big_quiet (fail)
                    go_wp2_with fail
                    go_round
                    case rel => exact ⟨j + 1, by omega, by omega, by go_num, rfl, hb3.trans ((drewN_below _ nq).mono hb3.size), hno2⟩
                    case measure => first | (simp [intOf]; done) | (simp [intOf]; omega)
              · exfalso
                obtain ⟨p, hp, _, rfl⟩ := gOk_pos hw (arc_in hw hu1.1).2
                have hfp := hu2.ge' hw hf hp
                exact hno p (by rw [HN.out] at hp; omega) hfp ⟨(lnkd_iff hw hxg hp).2 hu1.1, (hFA.1 p hp l1).2 hu2⟩
end Go.Proofs.YtllhimeffkefiaaGreatDoor
