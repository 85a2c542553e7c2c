/- Texts of one proof, joined in their order: each bears its own word of what it holds and on what condition. -/
import Derived.Test.YtbaljljlahhkfaaGreatDoorMZa
set_option linter.unusedVariables false
set_option linter.unusedSimpArgs false
/- impl's pair of two; the state of impl's Trusses. No condition. -/
set_option linter.unusedVariables false
set_option linter.unusedSimpArgs false
namespace Go.Proofs.YtbaljljlahhkfaaGreatDoor
open Go.RowKit Go.Sort

theorem pairOf_any (w : World) (a b : Int) : Calls Tryz.prog 53 #[.int .i64 a, .int .i64 b] w (fun e w' => e = .returned (cpV (nm a b)) ∧ Below w.heap.size w w') := by
  go_enter Tryz.func53, Tryz.ntmps53
  go_wp2
  have x0 : (w.alloc (.cells #[.int .i64 (min a b), .int .i64 (max a b)] 89)).cell? ⟨w.heap.size, 0, none⟩ = some (.int .i64 (min a b)) := by rw [World.cell?_alloc_mark]; rfl
  have x1 : (w.alloc (.cells #[.int .i64 (min a b), .int .i64 (max a b)] 89)).cell? ⟨w.heap.size, 1, none⟩ = some (.int .i64 (max a b)) := by rw [World.cell?_alloc_mark]; rfl
  exact bodyPost_ret (v := .agg #[.int .i64 (min a b), .int .i64 (max a b)]) (by simp [results, Tryz.results53, go_sem, x0, x1]) rfl ⟨rfl, (Below.refl _ w).alloc (Nat.le_refl _) _⟩
theorem own_keptC {w w' : World} {base : Nat} {e : TypeId} {sz : Nat} {v : Value} {n : Nat} {xs : List Value} (h : w.ownsRow base e sz v n xs) (hk : ∀ q, v.ownBlock = some q → w'.heap[q]? = w.heap[q]?) : w'.ownsRow base e sz v n xs := by
  refine ⟨h.1, ?_⟩
  rcases h.2 with hn | ⟨g, cap, cur, he, hb, hgg, rest⟩
  · exact .inl hn
  · exact .inr ⟨g, cap, cur, he, hb, (hk g (by rw [he]; rfl)).trans hgg, rest⟩
theorem grown_of_below {w w' : World} (h : Below w.heap.size w w') : w.grownBy w' none := ⟨h.os, h.tape, h.output, h.size, fun i hi _ => h.block i hi⟩
theorem own_blockC {w w' : World} {b n : Nat} {R : Value → Option (DataW Unit × List MemPlace)} {D : DataW Unit} (h : w.ownsMap Tryz.prog 89 R b n D) (hb : w'.heap[b]? = w.heap[b]?) : w'.ownsMap Tryz.prog 89 R b n D := by
  obtain ⟨es, clock, h1, h2⟩ := h
  exact ⟨es, clock, hb.trans h1, h2⟩
def mapLenC (w : World) (b : Nat) : Nat := match w.heap[b]? with
  | some (.map es _) => es.size
  | _ => 0
theorem own_lenC {w : World} {b n : Nat} {R : Value → Option (DataW Unit × List MemPlace)} {D : DataW Unit} (h : w.ownsMap Tryz.prog 89 R b n D) : mapLenC w b = Maps.size D := by
  obtain ⟨es, clock, h1, _, _, rfl⟩ := h
  unfold mapLenC
  rw [h1]
  simp [Maps.size, length_sorted]
/-- the map of the numbers stands in bt; what lay below B is as it was -/
structure Tq (w2 wr : World) (B bt : Nat) (ks : List (Int × Int)) (f : Int × Int → Nat) : Prop where
  below : Below B w2 wr
  truss : MapC wr bt ks f
theorem Tq.grow {w2 wr w' : World} {B bt x : Nat} {ks : List (Int × Int)} {f : Int × Int → Nat} (h : Tq w2 wr B bt ks f) (hg : wr.grownBy w' (some x)) (hx : B ≤ x) (h2 : x ≠ bt) (hB : B ≤ w2.heap.size) : Tq w2 w' B bt ks f :=
  ⟨⟨hg.os.trans h.below.os, hg.tape.trans h.below.tape, hg.output.trans h.below.output, Nat.le_trans h.below.size hg.size, fun b hb => (hg.block b (Nat.lt_of_lt_of_le (Nat.lt_of_lt_of_le hb hB) h.below.size) (fun e => by injection e with e; omega)).trans (h.below.block b hb)⟩, h.truss.below (hg.block bt h.truss.lt (fun e => h2 (by injection e with e; exact e.symm)))⟩
theorem Tq.step {w2 wr w' : World} {B bt : Nat} {ks : List (Int × Int)} {f : Int × Int → Nat} (h : Tq w2 wr B bt ks f) (hg : Below wr.heap.size wr w') (hB : B ≤ w2.heap.size) : Tq w2 w' B bt ks f :=
  ⟨h.below.trans (hg.mono (Nat.le_trans hB h.below.size)), h.truss.below (hg.block bt h.truss.lt)⟩
theorem Tq.grow0 {w2 wr w' : World} {B bt : Nat} {ks : List (Int × Int)} {f : Int × Int → Nat} (h : Tq w2 wr B bt ks f) (hg : wr.grownBy w' none) (hB : B ≤ w2.heap.size) : Tq w2 w' B bt ks f :=
  h.step ⟨hg.os, hg.tape, hg.output, hg.size, fun b hb => hg.block b hb (by simp)⟩ hB
theorem Tq.put {w2 wr : World} {B bt : Nat} {ks : List (Int × Int)} {f : Int × Int → Nat} (h : Tq w2 wr B bt ks f) (hn : ks.length < 1048576) {x : Int × Int} (hk : x ∈ ks) (hx : I64P x) (k : Nat) (hk2 : k ≤ 1000000) (hb : B ≤ bt) (hB : B ≤ w2.heap.size) :
    ∃ w', (Instr.mapUpdate 87 (.map (some bt)) (cpV x) (.int .i64 (k : Int))).run Tryz.prog wr = .ok () w' ∧ Tq w2 w' B bt ks (updC f x k) ∧ wr.grownBy w' (some bt) := by
  obtain ⟨w', hr, hm, hg⟩ := h.truss.put hn hk hx k hk2
  exact ⟨w', hr, ⟨⟨hg.os.trans h.below.os, hg.tape.trans h.below.tape, hg.output.trans h.below.output, Nat.le_trans h.below.size hg.size, fun b hb2 => (hg.block b (Nat.lt_of_lt_of_le (Nat.lt_of_lt_of_le hb2 hB) h.below.size) (fun e => by injection e with e; omega)).trans (h.below.block b hb2)⟩, hm⟩, hg⟩
end Go.Proofs.YtbaljljlahhkfaaGreatDoor
/- impl's Trusses, whole. Condition: the library's variables are as they were laid. -/
set_option linter.unusedVariables false
set_option linter.unusedSimpArgs false
namespace Go.Proofs.YtbaljljlahhkfaaGreatDoor
open Go.RowKit Go.Sort

set_option maxHeartbeats 4000000 in
set_option maxRecDepth 100000 in
theorem truss_any (w : World) (hE : Env w) (S0 : Nat → Prop) (v : Value) (g : Gr) (h : RGr w S0 v g) : Calls Tryz.prog 20 #[v] w (TrussR g w) := by
  have h0 := h
  obtain ⟨v1, v2, rfl, h1, h2⟩ := h
  obtain ⟨a1, c1, rfl⟩ := h1.shape
  obtain ⟨a2, c2, rfl⟩ := h2.shape
  obtain ⟨n1, hn1⟩ : ∃ n, g.nodes.length = n := ⟨_, rfl⟩
  obtain ⟨n2, hn2⟩ : ∃ n, g.edges.length = n := ⟨_, rfl⟩
  have HN1 := Lib.hid hn1
  have HN2 := Lib.hid hn2
  rw [hn1, hn2] at h0
  rw [hn1, hn2]
  clear h1 h2 hn1 hn2
  have hba := (Below.refl _ w).alloc (Nat.le_refl _) (.cells #[.slice a1 n1 c1, .slice a2 n2 c2] 32)
  have r1 := h0.below hba
  have hE1 := hE.below hba
  have x0 : (w.alloc (.cells #[.slice a1 n1 c1, .slice a2 n2 c2] 32)).cell? ⟨w.heap.size, 0, none⟩ = some (.slice a1 n1 c1) := by rw [World.cell?_alloc_mark]; rfl
  have x1 : (w.alloc (.cells #[.slice a1 n1 c1, .slice a2 n2 c2] 32)).cell? ⟨w.heap.size, 1, none⟩ = some (.slice a2 n2 c2) := by rw [World.cell?_alloc_mark]; rfl
  cases hg : gOk g with
  | false =>
    go_enter Tryz.func20, Tryz.ntmps20
    go_wp2_with (go_at_call 39; refine (graphOk_is _ hE1 _ _ _ _ hg r1).mono ?_; rintro e w1 ⟨rfl, hb1⟩)
    go_ret
    exact ⟨[], ⟨(fun _ => rfl), (fun h => by rw [hg] at h; cases h)⟩, PtsR.nil _ _ _ _ (hba.trans (hb1.mono hba.size))⟩
  | true =>
    have hw := gw_of hg
    have hlen := (gOk_parts hg).1
    have hlenE := (gOk_parts hg).2.1
    go_enter Tryz.func20, Tryz.ntmps20
    go_upto_region 4 with (first
      | (go_at_call 39; refine (graphOk_is _ hE1 _ _ _ _ hg r1).mono ?_; rintro e w1 ⟨rfl, hb1⟩; have r2 := r1.below hb1; have y0 := cell_kept (fun hl => hb1.block _ hl) x0; have y1 := cell_kept (fun hl => hb1.block _ hl) x1)
      | (go_at_call 49; refine (neighbours_any _ S0 _ g r2 hw).mono ?_; rintro e w2 ⟨bm, base, F, L, rfl, hN, hLm, hLn, hbm, hb2⟩))
    have hLl : ∀ a, (L a).length ≤ 200 := fun a => nb_len hw (fun e he => he) (hLn a) (fun x hx => (hLm a x).1 hx)
    have hLin : ∀ {a x}, x ∈ L a → a ∈ idsOf g.nodes ∧ x ∈ idsOf g.nodes := fun {a x} hx => isNb_in hw ((hLm a x).1 hx)
    have hI64 : ∀ u ∈ idsOf g.nodes, I64 u := fun u hu => id_I64 (hw.id u hu)
    have hmm := @run_makeMap Tryz.prog
    obtain ⟨ks, hks⟩ : ∃ l, prs (idsOf g.nodes) = l := ⟨_, rfl⟩
    have hkl : ks.length < 1000000 := by
      have := prs_len (idsOf g.nodes) 200 (by unfold idsOf; rw [List.length_map]; exact hlen)
      rw [hks] at this
      omega
    have hpk : ∀ p, PrP g.edges p → p ∈ ks := fun p hp => by
      obtain ⟨m1, m2⟩ := isNb_in hw hp.2
      rw [← hks]
      exact mem_prs m1 m2
    have hpI : ∀ p, PrP g.edges p → I64P p := fun p hp => by
      obtain ⟨m1, m2⟩ := isNb_in hw hp.2
      exact ⟨hI64 _ m1, hI64 _ m2⟩
    have r3 := r2.below hb2
    have z0 := cell_kept (fun hl => hb2.block _ hl) y0
    have z1 := cell_kept (fun hl => hb2.block _ hl) y1
    have hbA : Below w.heap.size w w2 := (hba.trans (hb1.mono hba.size)).trans (hb2.mono (Nat.le_trans hba.size hb1.size))
    have hzb := lt_of_cell z0
    have hbml := hN.map.lt
    clear hks hba hb1 hb2 r1 r2 x0 x1 y0 y1 h0 hbm hE1
    obtain ⟨w1', w2', hu, _, hEd⟩ := r3
    injection hu with hu
    have hu := Array.mk.inj hu
    simp only [List.cons.injEq, and_true] at hu
    obtain ⟨rfl, rfl⟩ := hu
    go_upto_region 6 with fail
    have e1 : (w2.alloc (.map #[] 0)).heap.size = w2.heap.size + 1 := by simp
    have hbW : Below w2.heap.size w2 ((w2.alloc (.map #[] 0)).alloc (.map #[] 0)) := ((Below.refl _ w2).alloc (Nat.le_refl _) _).alloc (by simp) _
    have hK0 : Tq w2 ((w2.alloc (.map #[] 0)).alloc (.map #[] 0)) w2.heap.size (w2.heap.size + 1) ks (fun _ => 0) := ⟨hbW, by rw [← e1]; exact MapC.made _ _⟩
    have hIn : ((w2.alloc (.map #[] 0)).alloc (.map #[] 0)).ownsMap Tryz.prog 89 (plainElem (H := Unit) Tryz.prog 4) w2.heap.size 0 (.map []) := (World.ownsMap_made _ _ _ _).alloc _
    have hN1 := hN.below hbW
    have hsz1 : ((w2.alloc (.map #[] 0)).alloc (.map #[] 0)).heap.size = w2.heap.size + 2 := by simp
    clear e1 hbW
    generalize (w2.alloc (.map #[] 0)).alloc (.map #[] 0) = W1 at hK0 hIn hN1 hsz1 ⊢
    obtain ⟨bi, hbi⟩ : ∃ b, w2.heap.size = b := ⟨_, rfl⟩
    obtain ⟨bt, hbt⟩ : ∃ b, bi + 1 = b := ⟨_, rfl⟩
    try simp only [hbi, hbt]
    rw [hbi] at hK0 hIn hsz1 hzb hbml
    rw [hbt] at hK0
    have HB := Lib.hid hbi
    have hB2 : bi ≤ w2.heap.size := Nat.le_of_eq hbi.symm
    have hne : bi ≠ bt := by omega
    have hbit : bi ≤ bt := by omega
    have hbtW : bt < W1.heap.size := by omega
    have hbib : bm ≠ bi := by omega
    clear hbi hbt hsz1
    have hfr : ∀ u, Below bi w2 u → Below w2.heap.size w2 u := fun u hu => by rw [HB.out]; exact hu
    have hz0 : ∀ u, Below bi w2 u → u.cell? ⟨w.heap.size, 0, none⟩ = some (.slice a1 n1 c1) := fun u hu => cell_kept (fun hl => (hfr u hu).block _ hl) z0
    have hz1 : ∀ u, Below bi w2 u → u.cell? ⟨w.heap.size, 1, none⟩ = some (.slice a2 n2 c2) := fun u hu => cell_kept (fun hl => (hfr u hu).block _ hl) z1
    obtain ⟨l, hownN, hkeys, hatN⟩ := hN1.map
    go_upto_region 7 with (first
      | (at_range; refine wpList_range_own _ rfl _ 78 rfl 2 39 kmap2 Tryz.underlying78 _ bm (idsOf g.nodes).length _ rfl hownN ?_; intro w0 hrg0 hg0 hs0)
      | fail)
    try go_frame
    obtain ⟨r, hr⟩ : ∃ r, W1.heap.size = r := ⟨_, rfl⟩
    rw [hr] at hrg0 hbtW
    have hIn0 := own_blockC hIn (hg0.block bi hIn.lt (by simp))
    have hK1 := hK0.grow0 hg0 hB2
    have hrbi : r ≠ bi := by omega
    have hrbt : r ≠ bt := by omega
    have hrB : bi ≤ r := by omega
    simp only [hr]
    clear hIn hK0 hg0 hs0 hN1 hownN hr
    go_loopw [6, 7, 9] (fun _ _ _ wr => ∃ (left : Lit → Bool) (cnt n : Nat) (D : DataW Unit) (S : Int × Int → Bool), wr.ranges Tryz.prog 2 slElem bm r (idsOf g.nodes).length (.map l) left cnt ∧ wr.ownsMap Tryz.prog 89 (plainElem Tryz.prog 4) bi n D ∧ SetC D S ∧ Tq w2 wr bi bt ks (fun _ => 0) ∧ (∀ p, S p = true → PrP g.edges p) ∧ ∀ a b, IsNb g.edges a b → left (.int .i64 a) = false → S (nm a b) = true) (fun _ _ _ wr => wr.rangeLeft bm r)
    case atStart =>
      refine ⟨_, _, _, _, _, hrg0, hIn0, SetC.none, hK1, (fun p q => by cases q), fun a b q e => ?_⟩
      have h1 := hatN a
      rw [Maps.atKey_of_not_has e] at h1
      injection h1 with h1
      obtain ⟨aa, cc, hFa⟩ := hN.shape a
      rw [hFa] at h1
      injection h1 with _ h1 _
      have := List.length_pos_of_mem ((hLm a b).2 q)
      omega
    case round =>
      clear hrg0 hIn0 hK1
      obtain ⟨left, cnt, n, D, S, hrg, hown, hS, K, hsub, hleft⟩ := hrel
      go_upto_region 8 with (at_next; refine wpList_next_ranges _ rfl _ rfl 2 kmap2 slElem (Value.int .i64) (fun c : Option Addr × Nat × Nat => .slice c.1 c.2.1 c.2.2) (fun key kl hk => by obtain ⟨x, rfl, _⟩ := Maps.keyOf_int_inv Tryz.underlying2 hk; exact ⟨x, rfl⟩) (fun v y hv => by obtain ⟨a, n, c, rfl, _⟩ := slElem_inv hv; exact ⟨(a, n, c), rfl⟩) bm r _ _ _ _ rfl hrg ?_ ?_)
      · intro _ hl0
        have hSP : ∀ p, S p = true ↔ PrP g.edges p := fun p => ⟨hsub p, fun q => by have := hleft _ _ q.2 (hl0 _); rwa [prp_self q] at this⟩
        have hP0 : Peel (PrP g.edges) (CPr g.edges) 0 (fun p => S p = true) (fun _ => 0) := by
          refine (Peel.start (P := PrP g.edges) (C := CPr g.edges) _ (fun p _ => ⟨_, (cpr_card hLm hLn S p).congr fun u => ?_⟩)).congr (fun p => (hSP p).symm) (fun _ _ _ => rfl)
          exact and_congr Iff.rfl (and_congr (hSP _) (hSP _))
        have htr0 : ∀ p, PrP g.edges p → S p = false → (fun _ => 0 : Int × Int → Nat) p = (fun _ => 0 : Int × Int → Nat) p + 2 := fun p q e => by rw [(hSP p).2 q] at e; cases e
        have hbnd : ∀ (t : Nat) (S : Int × Int → Bool) (f : Int × Int → Nat), Peel (PrP g.edges) (CPr g.edges) t (fun p => S p = true) f → ∀ p, S p = true → t ≤ n1 := fun t S f hP p hv => by
          have := hP.bound (v := p) hv (idsOf g.nodes) (fun T u q => q.mem hw)
          unfold idsOf at this
          rwa [List.length_map, HN1.out] at this
        have hmem : ∀ (t : Nat) (S : Int × Int → Bool) (f : Int × Int → Nat), Peel (PrP g.edges) (CPr g.edges) t (fun p => S p = true) f → ∀ p, S p = true → PrP g.edges p := fun t S f hP p hv => (hP.sub p hv).of
        have hfit := setc_fit hS hown (fun p hp => hpk p (hsub p hp))
        have hn200 : n1 ≤ 200 := by have := HN1.out; omega
        have hS1 := hS
        have hK2 := K
        clear hrg hown hS K hsub hleft hl0 hSP hatN hkeys
        go_upto_region 14 with fail
        go_wp2_with fail
        go_loopw [10, 11, 13, 15] (fun kv _ _ _ wr => ∃ (t q : Nat) (D : DataW Unit) (S : Int × Int → Bool) (f tr : Int × Int → Nat), q = t + 3 ∧ kv = .int .i64 q ∧ wr.ownsMap Tryz.prog 89 (plainElem Tryz.prog 4) bi ks.length D ∧ SetC D S ∧ Tq w2 wr bi bt ks tr ∧ Peel (PrP g.edges) (CPr g.edges) t (fun p => S p = true) f ∧ (∀ p, PrP g.edges p → S p = false → tr p = f p + 2) ∧ t ≤ n1 + 1) (fun kv _ _ _ _ => n1 + 5 - (intOf kv).toNat)
        case atStart => exact ⟨0, 3, _, _, _, _, rfl, by first | rfl | go_num, hfit, hS1, hK2, hP0, htr0, by omega⟩
        case round =>
          clear hfit hS1 hK2 hP0 htr0
          obtain ⟨t, q, D, S, f, tr, hq, rfl, hown, hS, K, hP, htr, ht⟩ := hrel
          have HQ := Lib.hid hq
          have hq1 : (q : Int) ≤ 1000 := by omega
          have hq2 : (3 : Int) ≤ q := by omega
          clear hq
          have hlen2 := fun ty => setc_len hown ty
          obtain ⟨s, hs⟩ : ∃ s, Maps.size D = s := ⟨_, rfl⟩
          rw [hs] at hlen2
          have HS := Lib.hid hs
          clear hs
          by_cases hpos : 0 < s
          · have f0 : decide ((0 : Int) < s) = true := decide_eq_true (by omega)
            have f0' : decide (0 < s) = true := decide_eq_true hpos
            have f0'' : (0 : Int) < s := by omega
            obtain ⟨v0, _, hv0⟩ := hS.some (by rw [HS.out]; exact hpos)
            have hk1 := hbnd t S f hP v0 hv0
            obtain ⟨t1, ht1⟩ : ∃ n, t + 1 = n := ⟨_, rfl⟩
            obtain ⟨t2, ht2⟩ : ∃ n, t + 2 = n := ⟨_, rfl⟩
            have hw1 : IntKind.i64.wrap ((q : Int) + 1) = (q : Int) + 1 := wrap64_of _ (by omega) (by omega)
            have hw2 : IntKind.i64.wrap ((q : Int) - 2) = (t1 : Int) := by rw [show (q : Int) - 2 = t1 by have := HQ.out; omega]; exact wrap64_of _ (by omega) (by omega)
            have hw3 : IntKind.i64.wrap ((q : Int) - 1) = (t2 : Int) := by rw [show (q : Int) - 1 = t2 by have := HQ.out; omega]; exact wrap64_of _ (by omega) (by omega)
            have HT1 := Lib.hid ht1
            have HT2 := Lib.hid ht2
            clear ht1 ht2
            go_upto_region 17 with fail
            go_wp2_with fail
            go_loopw [11, 13, 15] (fun av _ _ wr => ∃ (again : Bool) (D : DataW Unit) (S : Int × Int → Bool) (f tr : Int × Int → Nat), av = .bool again ∧ wr.ownsMap Tryz.prog 89 (plainElem Tryz.prog 4) bi ks.length D ∧ SetC D S ∧ Tq w2 wr bi bt ks tr ∧ Peel (PrP g.edges) (CPr g.edges) t (fun p => S p = true) f ∧ (∀ p, PrP g.edges p → S p = false → tr p = f p + 2) ∧ (again = false → ∀ p, S p = true → ∃ c, t + 1 ≤ c ∧ CardOf (CPr g.edges (fun u => S u = true) p) c)) (fun av _ _ wr => 2 * mapLenC wr bi + moreOf av)
            case atStart => exact ⟨true, D, S, f, tr, rfl, hown, hS, K, hP, htr, fun q => by cases q⟩
            case round =>
              clear hown hS K hP htr hlen2 hpos f0 f0' f0'' hv0 HS
              obtain ⟨again, D, S, f, tr, rfl, hown, hS, K, hP, htr, hst⟩ := hrel
              cases again with
              | false =>
                have hP2 := hP.next (hst rfl)
                clear hst
                go_wp2_with fail
                go_round
                case rel => exact ⟨t + 1, q + 1, D, S, f, tr, by rw [HQ.out], by first | rfl | go_num, hown, hS, K, hP2, htr, by omega⟩
                case measure => have := HQ.out; first | (simp [intOf]; done) | (simp [intOf]; omega)
              | true =>
                clear hst
                go_upto_region 20 with fail
                go_upto_region 21 with (first
                  | (at_range; refine wpList_range_own _ rfl _ 86 rfl 89 4 keyedC Tryz.underlying86 _ bi ks.length _ rfl hown ?_; intro w0 hrg0 hg0 hs0)
                  | fail)
                go_frame
                have K0 := K.grow0 hg0 hB2
                have hrb := hown.lt
                have HSZ := Lib.hid (own_lenC hown)
                have hleft0 : ∀ p, I64P p → S p = true → Maps.has D (kC p) = false → False := fun p hp q e => by
                  rw [hS.has p hp, q] at e
                  cases e
                obtain ⟨s0, hs0e⟩ : ∃ s, Maps.size D = s := ⟨_, rfl⟩
                rw [hs0e] at HSZ
                have hsz0 : Maps.size D ≤ s0 := Nat.le_of_eq hs0e
                have hbtr := K.truss.lt
                obtain ⟨rr, hr⟩ : ∃ r, wr.heap.size = r := ⟨_, rfl⟩
                rw [hr] at hrg0 hrb hbtr
                have hrrbt : rr ≠ bt := by omega
                have hrrB : bi ≤ rr := by omega
                clear hg0 hs0 K hown hs0e hrb hbtr
                simp only [hr]
                clear hr
                go_loopw [11, 13, 15] (fun av _ _ w4 => ∃ (again : Bool) (left : Lit → Bool) (cnt : Nat) (D : DataW Unit) (S : Int × Int → Bool) (f tr : Int × Int → Nat), av = .bool again ∧ w4.ranges Tryz.prog 89 (plainElem Tryz.prog 4) bi rr ks.length D left cnt ∧ SetC D S ∧ Tq w2 w4 bi bt ks tr ∧ Peel (PrP g.edges) (CPr g.edges) t (fun p => S p = true) f ∧ (∀ p, PrP g.edges p → S p = false → tr p = f p + 2) ∧ (again = false → ∀ p, S p = true → left (kC p) = false → ∃ c, t + 1 ≤ c ∧ CardOf (CPr g.edges (fun u => S u = true) p) c) ∧ Maps.size D ≤ s0 ∧ (again = true → Maps.size D < s0)) (fun _ _ _ w4 => w4.rangeLeft bi rr)
                case atStart => exact ⟨false, _, _, D, S, f, tr, rfl, hrg0, hS, K0, hP, htr, fun _ p q e => (hleft0 p (hpI p (hmem t S f hP p q)) q e).elim, hsz0, fun q => by cases q⟩
                case round =>
                  clear hrg0 hS K0 hP htr hleft0 hsz0
                  obtain ⟨again, left, cnt, D, S, f, tr, rfl, hrg, hS, K, hP, htr, hst, hsz, hszl⟩ := hrel
                  go_upto_region 22 with (at_next; refine wpList_next_ranges _ rfl _ rfl 89 keyedC (plainElem Tryz.prog 4) (fun p : Int × Int => Value.agg #[.int .i64 p.1, .int .i64 p.2]) (id : Value → Value) (fun key kl hk => by obtain ⟨x, rfl, _⟩ := key_inv hk; exact ⟨x, rfl⟩) (fun v y hv => ⟨v, rfl⟩) bi rr _ _ _ _ rfl hrg ?_ ?_)
                  · intro _ hl0
                    have hown := hrg.owns
                    have HSZ2 := Lib.hid (own_lenC hown)
                    go_wp2_with fail
                    go_round
                    case rel => exact ⟨again, D, S, f, tr, rfl, hown, hS, K, hP, htr, fun q v hv => hst q v hv (hl0 _)⟩
                    case measure =>
                      rw [HSZ.out, HSZ2.out]
                      cases again with
                      | true => have := hszl rfl; simp [moreOf]; omega
                      | false => simp [moreOf]; omega
                  · intro a b c kl y ps w5 cnt5 hkey hlx hyv hat5 hrg5 hlt5 hg5 hs5 hen
                    obtain ⟨⟨pa, pb⟩, e1, rfl, hp1⟩ := key_inv hkey
                    unfold cpV at e1
                    injection e1 with e1
                    have e1 := Array.mk.inj e1
                    simp only [List.cons.injEq, Value.int.injEq, and_true, true_and] at e1
                    obtain ⟨rfl, rfl⟩ := e1
                    have hSp : S (a, b) = true := by
                      have h1 := Maps.has_true_of_atKey hat5
                      rwa [hS.has _ hp1] at h1
                    have hpp := hmem t S f hP (a, b) hSp
                    have haI : I64 a := hp1.1
                    have hbI : I64 b := hp1.2
                    have K5 := K.grow hg5 hrrB hrrbt hB2
                    have hle5 := hrg5.left_eq
                    have hle0 := hrg.left_eq
                    have hlss := hS.less hrg.owns hp1 hSp
                    go_upto_region 23 with fail
                    have hbp := (Below.refl _ w5).alloc (Nat.le_refl _) (.cells #[.int .i64 a, .int .i64 b] 89)
                    have Kp := K5.step hbp hB2
                    have hrgp := hrg5.alloc (.cells #[.int .i64 a, .int .i64 b] 89)
                    have p0 : (w5.alloc (.cells #[.int .i64 a, .int .i64 b] 89)).cell? ⟨w5.heap.size, 0, none⟩ = some (.int .i64 a) := by rw [World.cell?_alloc_mark]; rfl
                    have p1 : (w5.alloc (.cells #[.int .i64 a, .int .i64 b] 89)).cell? ⟨w5.heap.size, 1, none⟩ = some (.int .i64 b) := by rw [World.cell?_alloc_mark]; rfl
                    have hbpt : w5.heap.size ≠ bt := by have := K5.truss.lt; omega
                    rw [hs5] at p0 p1 hbpt
                    clear hkey hyv hat5 K K5 hrg hrg5 hbp hg5 hs5
                    generalize w5.alloc (.cells #[.int .i64 a, .int .i64 b] 89) = wp at Kp hrgp p0 p1 ⊢
                    obtain ⟨bp, hbpe⟩ : ∃ b, wr.heap.size = b := ⟨_, rfl⟩
                    rw [hbpe] at p0 p1 hbpt
                    simp only [hbpe]
                    clear hbpe
                    have hm5 := hN.below (hfr wp Kp.below)
                    obtain ⟨ax, cx, hFx⟩ := hm5.shape a
                    have hlook := (hm5.map.look haI).2
                    have hll := hLl a
                    obtain ⟨ln, hln⟩ : ∃ n, (L a).length = n := ⟨_, rfl⟩
                    rw [hln] at hFx hll
                    rw [hFx] at hlook
                    have HF := Lib.hid hFx
                    have HLN := Lib.hid hln
                    have hll2 : (ln : Int) ≤ 200 := by omega
                    have hcd := cpr_card hLm hLn S (a, b)
                    clear hln hm5 hFx
                    go_upto_region 24 with fail
                    go_wp2_with fail
                    go_loopw [13, 15, 62] (fun cv _ jv w6 => ∃ j : Nat, j ≤ ln ∧ jv = .int .i64 j ∧ cv = .int .i64 ((((L a).take j).filter fun c => S (nm a c) && S (nm b c)).length : Nat) ∧ Below wp.heap.size wp w6) (fun _ _ jv _ => ln - (intOf jv).toNat)
                    case atStart => exact ⟨0, by omega, rfl, rfl, Below.refl _ _⟩
                    case round =>
                      obtain ⟨j, hjl, rfl, rfl, hbw⟩ := hrel
                      have Kw := Kp.step hbw hB2
                      have hown := own_blockC hrgp.owns (hbw.block bi hrgp.owns.lt)
                      have q0 := cell_kept (fun hl => hbw.block _ hl) p0
                      have q1 := cell_kept (fun hl => hbw.block _ hl) p1
                      by_cases hltj : j < ln
                      · have k0 : decide ((j : Int) < ln) = true := decide_eq_true (by omega)
                        have k0' : decide (j < ln) = true := decide_eq_true hltj
                        have k0'' : (j : Int) < ln := by omega
                        have hjE : j < (L a).length := by rw [HLN.out]; exact hltj
                        have hrow := (hN.below (hfr wr Kw.below)).rows.own a
                        rw [HF.out, HLN.out] at hrow
                        obtain ⟨gx, cx', hEq, _, _, hat, _⟩ := own_at hrow (by omega)
                        injection hEq with e1 _ e3
                        subst e1
                        subst e3
                        have z2 : wr.cell? ⟨gx, j, none⟩ = some (.int .i64 (L a)[j]) := by
                          have := hat j (.int .i64 (L a)[j]) (by rw [List.getElem?_map, List.getElem?_eq_getElem hjE]; rfl)
                          rwa [Nat.zero_add] at this
                        have hcl : (((L a).take j).filter fun c => S (nm a c) && S (nm b c)).length ≤ j := Nat.le_trans (List.length_filter_le _ _) (by rw [List.length_take]; omega)
                        have hT : (((L a).take (j + 1)).filter fun c => S (nm a c) && S (nm b c)).length = (((L a).take j).filter fun c => S (nm a c) && S (nm b c)).length + (if (S (nm a (L a)[j]) && S (nm b (L a)[j])) = true then 1 else 0) := by
                          rw [take_snoc' _ j hjE, List.filter_append, List.length_append, List.filter_cons]
                          split <;> rfl
                        have huI := hI64 _ (hLin (List.getElem_mem hjE)).2
                        obtain ⟨u, hu⟩ : ∃ u, (L a)[j] = u := ⟨_, rfl⟩
                        rw [hu] at z2 hT huI
                        have hlkA := fun (u' : World) (hu' : Below wr.heap.size wr u') => setc_look hS (own_blockC hown (hu'.block bi hown.lt)) (nm_I64 haI huI)
                        have hlkB := fun (u' : World) (hu' : Below wr.heap.size wr u') => setc_look hS (own_blockC hown (hu'.block bi hown.lt)) (nm_I64 hbI huI)
                        have hub : S (nm b u) = true → u ≠ b := fun e => fun e2 => isNb_ne (prp_nm.1 (hmem t S f hP _ e)) e2.symm
                        obtain ⟨cq, hcq⟩ : ∃ q, (((L a).take j).filter fun c => S (nm a c) && S (nm b c)).length = q := ⟨_, rfl⟩
                        rw [hcq] at hT hcl
                        simp only [hcq]
                        have hq200 : (cq : Int) ≤ 200 := by omega
                        clear hat hu hcq hrow hown
                        cases hsA : S (nm a u) with
                        | false =>
                          rw [hsA, Bool.false_and, if_neg (by decide)] at hT
                          simp only [hsA] at hlkA
                          have HT := Lib.hid hT
                          clear hT hsA hub hlkB
                          go_wp2_with (go_at_call 53; refine (pairOf_any _ _ _).mono ?_; rintro e wA ⟨rfl, hA⟩; have hl1 := hlkA wA hA)
                          go_round
                          case rel => exact ⟨j + 1, by omega, by go_num, by rw [HT.out]; go_num, hbw.trans (hA.mono hbw.size)⟩
                          case measure => first | (simp [intOf]; done) | (simp [intOf]; omega)
                        | true =>
                          simp only [hsA] at hlkA
                          have tok := True.intro
                          cases hsB : S (nm b u) with
                          | false =>
                            rw [hsA, hsB, Bool.true_and, if_neg (by decide)] at hT
                            simp only [hsB] at hlkB
                            have HT := Lib.hid hT
                            clear hT hsA hsB hub
                            go_wp2_with (first
                              | (go_at_call 53; clear tok; refine (pairOf_any _ _ _).mono ?_; rintro e wA ⟨rfl, hA⟩; have hl1 := hlkA wA hA; have qA1 := cell_kept (fun hl => hA.block _ hl) q1)
                              | (go_at_call 53; refine (pairOf_any _ _ _).mono ?_; rintro e wB ⟨rfl, hB⟩; have hAB := hA.trans (hB.mono hA.size); have hl2 := hlkB wB hAB))
                            go_round
                            case rel => exact ⟨j + 1, by omega, by go_num, by rw [HT.out]; go_num, hbw.trans (hAB.mono hbw.size)⟩
                            case measure => first | (simp [intOf]; done) | (simp [intOf]; omega)
                          | true =>
                            rw [hsA, hsB, Bool.true_and, if_pos rfl] at hT
                            have hne1 := hub hsB
                            have hne2 : (u != b) = true := by rw [bne_iff_ne]; exact hne1
                            have hne3 : decide (u = b) = false := decide_eq_false hne1
                            simp only [hsB] at hlkB
                            have HT := Lib.hid hT
                            clear hT hsA hsB hub
                            go_wp2_with (first
                              | (go_at_call 53; clear tok; refine (pairOf_any _ _ _).mono ?_; rintro e wA ⟨rfl, hA⟩; have hl1 := hlkA wA hA; have qA1 := cell_kept (fun hl => hA.block _ hl) q1)
                              | (go_at_call 53; refine (pairOf_any _ _ _).mono ?_; rintro e wB ⟨rfl, hB⟩; have hAB := hA.trans (hB.mono hA.size); have hl2 := hlkB wB hAB; have qB1 := cell_kept (fun hl => hB.block _ hl) qA1))
                            go_round
                            case rel => exact ⟨j + 1, by omega, by go_num, by rw [HT.out]; go_num, hbw.trans (hAB.mono hbw.size)⟩
                            case measure => first | (simp [intOf]; done) | (simp [intOf]; omega)
                      · have hj3 : j = ln := by omega
                        subst hj3
                        have k0 : decide ((j : Int) < j) = false := decide_eq_false (by omega)
                        rw [show (L a).take j = L a from List.take_of_length_le (by rw [HLN.out]; omega)]
                        obtain ⟨cn, hcn⟩ : ∃ q, ((L a).filter fun c => S (nm a c) && S (nm b c)).length = q := ⟨_, rfl⟩
                        have hcd : CardOf (CPr g.edges (fun u => S u = true) (a, b)) cn := by rw [← hcn]; exact hcd
                        simp only [hcn]
                        clear hcn
                        have hrgw := hrgp.kept (grown_of_below hbw) (by simp) (by simp)
                        by_cases hck : cn < t1
                        · have m0 : decide ((cn : Int) < t1) = true := decide_eq_true (by omega)
                          have m0' : decide (cn < t1) = true := decide_eq_true hck
                          have m0'' : (cn : Int) < t1 := by omega
                          obtain ⟨w7, hput, K7, hg7⟩ := Kw.put (by omega) (hpk _ hpp) hp1 t2 (by have := HT2.out; omega) hbit hB2
                          have hput' : (Instr.mapUpdate 87 (.map (some bt)) (.agg #[.int .i64 a, .int .i64 b]) (.int .i64 (t2 : Int))).run Tryz.prog wr = .ok () w7 := hput
                          have hrg7 := hrgw.kept hg7 (fun e => hne (Option.some.inj e)) (fun e => hrrbt (Option.some.inj e))
                          have q70 := cell_kept (fun hl => hg7.block bp hl (fun e => hbpt (Option.some.inj e))) q0
                          have q71 := cell_kept (fun hl => hg7.block bp hl (fun e => hbpt (Option.some.inj e))) q1
                          have hP7 := Peel.drop CPr.mono hP (v := (a, b)) (S' := fun u => (S u && !decide (u = (a, b))) = true) (f' := updC f (a, b) t) hSp hcd (by have := HT1.out; omega) (fun u => by simp) (fun u hu => by unfold updC; rw [if_neg hu]) (by unfold updC; rw [if_pos rfl])
                          have hS7 := hS.del hp1
                          have htr7 : ∀ p, PrP g.edges p → (S p && !decide (p = (a, b))) = false → updC tr (a, b) t2 p = updC f (a, b) t p + 2 := fun p hp e => by
                            unfold updC
                            by_cases h1 : p = (a, b)
                            · rw [if_pos h1, if_pos h1, HT2.out]
                            · rw [if_neg h1, if_neg h1]
                              refine htr p hp ?_
                              simpa [h1] using e
                          clear hlook hcd hst hszl hP hput htr hS Kw Kp hrgp hown hrgw
                          go_wp2_with (at_delete; refine wpList_delete_ranges _ rfl _ _ 86 89 rfl 4 keyedC Tryz.underlying86 _ bi rr _ _ _ _ rfl hrg7 _ _ rfl (key_kC hp1) ?_; intro w8 cnt8 hrg8 hle8 hturn8)
                          have K8 := K7.grow hturn8.grown (Nat.le_refl _) hne hB2
                          rw [Maps.strike_twice] at hrg8
                          have hlt8 := hrg8.left_eq
                          go_roundw
                          case rel => exact ⟨true, _, cnt8, _, _, _, _, rfl, hrg8, hS7, K8, hP7, htr7, (fun q => by cases q), by omega, fun _ => by omega⟩
                          case measure => rw [hlt8, hle0]; omega
                        · have m0 : decide ((cn : Int) < t1) = false := decide_eq_false (by omega)
                          have m0' : decide (cn < t1) = false := decide_eq_false hck
                          have m0'' : ¬ (cn : Int) < t1 := by omega
                          have hst2 : again = false → ∀ p, S p = true → (left (kC p) && !(kC p).sameKey (kC (a, b))) = false → ∃ c, t + 1 ≤ c ∧ CardOf (CPr g.edges (fun u => S u = true) p) c := fun q p hv hl => by
                            rw [Bool.and_eq_false_iff, Bool.not_eq_false'] at hl
                            rcases hl with x | x
                            · exact hst q p hv x
                            · have : p = (a, b) := kC_inj (hpI p (hmem t S f hP p hv)) hp1 (WideAt.sameKey_eq x)
                              subst this
                              exact ⟨cn, by have := HT1.out; omega, hcd⟩
                          have hleW := hrgw.left_eq
                          clear hlook hcd hst hown
                          go_wp2_with fail
                          go_roundw
                          case rel => exact ⟨again, _, cnt5, _, _, _, _, rfl, hrgw, hS, Kw, hP, htr, hst2, hsz, hszl⟩
                          case measure => rw [hleW, hle0]; exact hlt5
          · have hs0 : s = 0 := by omega
            subst hs0
            have f0 : decide ((0 : Int) < (0 : Nat)) = false := by decide
            have hzero : ∀ p, PrP g.edges p → S p = false := fun p hp => hS.zero HS.out (hpI p hp)
            have hdone := hP.done (fun p hv => by rw [hzero p (hmem t S f hP p hv)] at hv; cases hv)
            have hf : ∀ p, PrP g.edges p → tr p = f p + 2 := fun p hp => htr p hp (hzero p hp)
            have hbF := hbA.trans ((hfr wr K.below).mono hbA.size)
            have q1 := hz1 wr K.below
            have hEz := hEd.below EEd.kept (hfr wr K.below)
            have hmz := K.truss
            have hpl : (trOf g.edges f).length = n2 := by unfold trOf; rw [List.length_map, HN2.out]
            have hn2' : (n2 : Int) ≤ 400 := by have := HN2.out; omega
            have htr400 : ∀ p, PrP g.edges p → tr p = f p + 2 := hf
            obtain ⟨Wz, rfl⟩ : ∃ W, W = wr := ⟨wr, rfl⟩
            obtain ⟨i0, hi0, hi0z, hi01, hi02⟩ := info_parts (show (Tryz.prog.info? 72).map (fun i => (i.zero, i.size, i.bytes)) = some (some (.agg #[.int .i64 0, .int .i64 0]), 2, 16) by kernel_rfl)
            clear hown hS K hP htr hzero hpos
            go_upto_region 35 with fail
            go_wp2_with fail
            go_loopw [16, 102] (fun ov jv w9 => ∃ j : Nat, j ≤ n2 ∧ jv = .int .i64 j ∧ Below Wz.heap.size Wz w9 ∧ w9.ownsRow Wz.heap.size 72 2 ov j (((trOf g.edges f).take j).flatMap cP)) (fun _ jv _ => n2 - (intOf jv).toNat)
            case atStart => exact ⟨0, by omega, rfl, Below.refl _ _, World.ownsRow_nil _ _ _ _⟩
            case round =>
              obtain ⟨j, hj, rfl, hb, hown⟩ := hrel
              by_cases hlt : j < n2
              · have g0 : decide ((j : Int) < n2) = true := decide_eq_true (by omega)
                have g0' : decide (j < n2) = true := decide_eq_true hlt
                have g0'' : (j : Int) < n2 := by omega
                have hjE : j < g.edges.length := by rw [HN2.out]; exact hlt
                have hEr := hEz.below EEd.kept hb
                obtain ⟨bE, oE, l3, d3, rfl, -, ed0, ed1, ed2, ed3, ed4, -, -⟩ := REd.at hEr hjE
                have hT : (trOf g.edges f).take (j + 1) = (trOf g.edges f).take j ++ [⟨g.edges[j].id, if g.edges[j].src = g.edges[j].dst then 0 else ((f (nm g.edges[j].src g.edges[j].dst) + 2 : Nat) : Int)⟩] := by
                  rw [take_snoc' _ j (by rw [hpl]; exact hlt)]
                  simp [trOf]
                obtain ⟨m1, m2⟩ := gOk_mem hw (List.getElem_mem hjE)
                have hi1 := hI64 _ m1
                have hi2 := hI64 _ m2
                have hnbE : g.edges[j].src ≠ g.edges[j].dst → tr (nm g.edges[j].src g.edges[j].dst) = f (nm g.edges[j].src g.edges[j].dst) + 2 := fun q => htr400 _ (prp_nm.2 ⟨_, List.getElem_mem hjE, q, .inl ⟨rfl, rfl⟩⟩)
                generalize g.edges[j] = ed at ed0 ed1 ed2 ed3 ed4 hT hi1 hi2 hnbE
                obtain ⟨yi, yt, ys, yd, yf⟩ := ed
                simp only at ed0 ed1 ed2 ed3 ed4 hT hi1 hi2 hnbE
                obtain ⟨yl, hyl⟩ : ∃ x, yf.length = x := ⟨_, rfl⟩
                rw [hyl] at ed4
                clear hyl hEr m1 m2
                generalize hPe : ((trOf g.edges f).take j).flatMap cP = P at hown
                have HT : Hid (∀ x : Int, (x = if ys = yd then 0 else ((f (nm ys yd) + 2 : Nat) : Int)) → ((trOf g.edges f).take (j + 1)).flatMap cP = P ++ [.int .i64 yi, .int .i64 x]) := Lib.hid (fun x hx => by rw [hT, List.flatMap_append, hPe, hx]; rfl)
                clear hT hPe
                go_upto_region 38 with fail
                have hbA1 := hb.alloc hb.size (.cells #[.int .i64 yi, .string yt, .int .i64 ys, .int .i64 yd, .slice l3 yl d3] 84)
                have hown1 := hown.alloc (.cells #[.int .i64 yi, .string yt, .int .i64 ys, .int .i64 yd, .slice l3 yl d3] 84)
                have d0' : (wr.alloc (.cells #[.int .i64 yi, .string yt, .int .i64 ys, .int .i64 yd, .slice l3 yl d3] 84)).cell? ⟨wr.heap.size, 0, none⟩ = some (.int .i64 yi) := by rw [World.cell?_alloc_mark]; rfl
                have d2' : (wr.alloc (.cells #[.int .i64 yi, .string yt, .int .i64 ys, .int .i64 yd, .slice l3 yl d3] 84)).cell? ⟨wr.heap.size, 2, none⟩ = some (.int .i64 ys) := by rw [World.cell?_alloc_mark]; rfl
                have d3' : (wr.alloc (.cells #[.int .i64 yi, .string yt, .int .i64 ys, .int .i64 yd, .slice l3 yl d3] 84)).cell? ⟨wr.heap.size, 3, none⟩ = some (.int .i64 yd) := by rw [World.cell?_alloc_mark]; rfl
                clear ed0 ed1 ed2 ed3 ed4 hown hb
                generalize wr.alloc (.cells #[.int .i64 yi, .string yt, .int .i64 ys, .int .i64 yd, .slice l3 yl d3] 84) = W2 at hbA1 hown1 d0' d2' d3' ⊢
                obtain ⟨be, hbe⟩ : ∃ b, wr.heap.size = b := ⟨_, rfl⟩
                rw [hbe] at d0' d2' d3'
                simp only [hbe]
                clear hbe
                go_upto_region 39 with fail
                have hb2 := hbA1.alloc hbA1.size (.cells #[.int .i64 yi, .int .i64 0] 72)
                have hown2 := hown1.alloc (.cells #[.int .i64 yi, .int .i64 0] 72)
                have e2' := cell_alloc d2' (.cells #[.int .i64 yi, .int .i64 0] 72)
                have e3' := cell_alloc d3' (.cells #[.int .i64 yi, .int .i64 0] 72)
                have x0 : (W2.alloc (.cells #[.int .i64 yi, .int .i64 0] 72)).cell? ⟨W2.heap.size, 0, none⟩ = some (.int .i64 yi) := by rw [World.cell?_alloc_mark]; rfl
                have x1 : (W2.alloc (.cells #[.int .i64 yi, .int .i64 0] 72)).cell? ⟨W2.heap.size, 1, none⟩ = some (.int .i64 0) := by rw [World.cell?_alloc_mark]; rfl
                have xf : (W2.alloc (.cells #[.int .i64 yi, .int .i64 0] 72)).frozen? ⟨W2.heap.size, 1, none⟩ = false := by rw [World.frozen?_alloc_mark]; simp
                have hnb : u16.ownBlock ≠ some W2.heap.size := fun e => by have := (hown1.lt _ e).2; omega
                have hbxW := hbA1.size
                clear hown1 hbA1 d0' d2' d3'
                generalize W2.alloc (.cells #[.int .i64 yi, .int .i64 0] 72) = W3 at hb2 hown2 e2' e3' x0 x1 xf ⊢
                obtain ⟨bx, hbx⟩ : ∃ b, W2.heap.size = b := ⟨_, rfl⟩
                rw [hbx] at x0 x1 xf hnb hbxW
                simp only [hbx]
                clear hbx
                have hsz3 := hb2.size
                by_cases hs : ys = yd
                · have m1 : (ys != yd) = false := by rw [bne_eq_false_iff_eq]; exact hs
                  have HT2 := Lib.hid (HT.out 0 (by rw [if_pos hs]))
                  have hownX := hown2
                  clear hs HT hown2
                  go_wp2_with (at_builtin; refine wpList_append_lies _ rfl (.tmp 122) (.tmp 124) 27 rfl Wz.heap.size 72 i0 (.agg #[.int .i64 0, .int .i64 0]) 2 16 Tryz.underlying27 hi0 hi0z hi01 hi02 rfl (by decide) _ j P rfl (hownX.alloc _) ⟨_, 0, none⟩ 1 1 [.int .i64 yi, .int .i64 0] rfl rfl (World.news_of_block (new_block (by simp) _ _)) (by intro u hu; simp at hu; rcases hu with rfl | rfl <;> rfl) (by decide) (by unfold maxLen; omega) (by omega) (by simp; omega) _ rfl ?_; intro gg cap w9 hown9 hgrow9 hat9 hlt9; have hgrow9 : World.grownBy _ w9 u16.ownBlock := hgrow9)
                  go_round
                  case rel => exact ⟨j + 1, by omega, by go_num, (hb2.alloc hsz3 _).grown hgrow9 (by simp; omega) (fun q hq => (hownX.lt q hq).1), by rw [HT2.out]; exact hown9⟩
                  case measure => first | (simp [intOf]; done) | (simp [intOf]; omega)
                · have m1 : (ys != yd) = true := by rw [bne_iff_ne]; exact hs
                  have hv := hnbE hs
                  have HT2 : Hid (((trOf g.edges f).take (j + 1)).flatMap cP = P ++ [.int .i64 yi, .int .i64 ((tr (nm ys yd) : Nat) : Int)]) := Lib.hid (HT.out _ (by rw [if_neg hs, hv]))
                  have hm3 := hmz.below (hb2.block bt hmz.lt)
                  clear hs HT hv
                  obtain ⟨tv, htv⟩ : ∃ n, tr (nm ys yd) = n := ⟨_, rfl⟩
                  rw [htv] at HT2
                  go_upto_region 41 with (go_at_call 53; refine (pairOf_any _ _ _).mono ?_; rintro e wA ⟨rfl, hA⟩; have hlk := (hm3.below (hA.block bt hm3.lt)).look (nm_I64 hi1 hi2); rw [htv] at hlk; have y0 := cell_kept (fun hl => hA.block _ hl) x0; have y1 := cell_kept (fun hl => hA.block _ hl) x1; have yf2 := (World.frozen?_of_block (a := ⟨bx, 1, none⟩) (hA.block bx (lt_of_cell x1))).trans xf)
                  have hownX : (wA.setCell ⟨bx, 1, none⟩ (.int .i64 (tv : Int))).ownsRow Wz.heap.size 72 2 u16 j P := own_keptC (own_kept hown2 (fun b _ hl => hA.block b hl)) (fun q e => Below.heap_setCell _ _ _ _ (by show q ≠ bx; intro e2; exact hnb (e2 ▸ e)))
                  have hbX : Below Wz.heap.size Wz (wA.setCell ⟨bx, 1, none⟩ (.int .i64 (tv : Int))) := by
                    have hq := hb2.trans (hA.mono hb2.size)
                    exact ⟨hq.os, hq.tape, hq.output, by simp [World.setCell]; exact hq.size, fun b hb => (Below.heap_setCell _ _ _ _ (by show b ≠ bx; omega)).trans (hq.block b hb)⟩
                  have w0' : (wA.setCell ⟨bx, 1, none⟩ (.int .i64 (tv : Int))).cell? ⟨bx, 0, none⟩ = some (.int .i64 yi) := (World.cell?_setCell_other _ _ _ _ (by simp)).trans y0
                  have w1' : (wA.setCell ⟨bx, 1, none⟩ (.int .i64 (tv : Int))).cell? ⟨bx, 1, none⟩ = some (.int .i64 (tv : Int)) := World.cell?_setCell_same _ _ _ y1
                  clear hlk hown2 hb2 x0 x1 xf y0 y1 yf2 hA e2' e3' hm3 htv hsz3
                  generalize wA.setCell ⟨bx, 1, none⟩ (.int .i64 (tv : Int)) = W5 at hownX hbX w0' w1' ⊢
                  have hsz3 := hbX.size
                  go_wp2_with (at_builtin; refine wpList_append_lies _ rfl (.tmp 122) (.tmp 124) 27 rfl Wz.heap.size 72 i0 (.agg #[.int .i64 0, .int .i64 0]) 2 16 Tryz.underlying27 hi0 hi0z hi01 hi02 rfl (by decide) _ j P rfl (hownX.alloc _) ⟨_, 0, none⟩ 1 1 [.int .i64 yi, .int .i64 (tv : Int)] rfl rfl (World.news_of_block (new_block (by simp) _ _)) (by intro u hu; simp at hu; rcases hu with rfl | rfl <;> rfl) (by decide) (by unfold maxLen; omega) (by omega) (by simp; omega) _ rfl ?_; intro gg cap w9 hown9 hgrow9 hat9 hlt9; have hgrow9 : World.grownBy _ w9 u16.ownBlock := hgrow9)
                  go_round
                  case rel => exact ⟨j + 1, by omega, by go_num, (hbX.alloc hsz3 _).grown hgrow9 (by simp; omega) (fun q hq => (hownX.lt q hq).1), by rw [HT2.out]; exact hown9⟩
                  case measure => first | (simp [intOf]; done) | (simp [intOf]; omega)
              · have hj3 : j = n2 := by omega
                subst hj3
                have g0 : decide ((j : Int) < j) = false := decide_eq_false (by omega)
                rw [List.take_of_length_le (by omega)] at hown
                have hown : wr.ownsRow Wz.heap.size 72 2 u16 (trOf g.edges f).length ((trOf g.edges f).flatMap cP) := by rw [hpl]; exact hown
                obtain ⟨s1, s2⟩ := own_rpt hown (by omega)
                go_wp2_with fail
                go_ret
                have hbG := hbF.trans (hb.mono hbF.size)
                exact ⟨_, ⟨(fun h => by rw [hg] at h; cases h), (fun _ => ⟨f, hdone, rfl⟩)⟩, _, rfl, s1.mono EPt.mono (fun b hb => Nat.le_trans hbF.size hb), Own.low s2 hbF.size, hbG⟩
      · intro x ca cn cc kl yd yp w5 cnt5 hkey hlx hRc hatD hrg5 hlt5 hg5 hs5 hen
        obtain ⟨x', ex, rfl, hwx⟩ := Maps.keyOf_int_inv Tryz.underlying2 hkey
        injection ex with _ ex
        subst ex
        have hy : yd = .held (.slice ca cn cc) := (congrArg Prod.fst (Option.some.inj hRc)).symm
        have hFx : F x = .slice ca cn cc := by
          have := hatD (.held nilS)
          rw [hatN x, hy] at this
          injection this
        have hcn : (L x).length = cn := by
          obtain ⟨aa, cc2, hsh⟩ := hN.shape x
          rw [hFx] at hsh
          injection hsh with _ e2 _
          exact e2.symm
        have HCN := Lib.hid hcn
        have hcl := hLl x
        rw [hcn] at hcl
        have hcl2 : (cn : Int) ≤ 200 := by omega
        have hxI := i64_wf hwx
        have K5 := K.grow hg5 hrB hrbt hB2
        have hown5 := own_blockC hown (hg5.block bi hown.lt (fun e => hrbi (Option.some.inj e).symm))
        have HF := Lib.hid hFx
        have hle0 := hrg.left_eq
        have hleft2 : ∀ a b, IsNb g.edges a b → (left (.int .i64 a) && !(Lit.int .i64 a).sameKey (.int .i64 x)) = false → S (nm a b) = true ∨ a = x := fun a b q e => by
          rw [Bool.and_eq_false_iff, Bool.not_eq_false'] at e
          rcases e with e | e
          · exact .inl (hleft a b q e)
          · exact .inr (by have := WideAt.sameKey_eq e; injection this)
        clear hkey hRc hatD hy hcn hFx K hown hg5 hs5 hrg hleft
        go_upto_region 9 with fail
        go_wp2_with fail
        go_loopw [9, 36] (fun _ jv w6 => ∃ (j n : Nat) (D : DataW Unit) (S : Int × Int → Bool), j ≤ cn ∧ jv = .int .i64 j ∧ w6.ranges Tryz.prog 2 slElem bm r (idsOf g.nodes).length (.map l) (fun z => left z && !z.sameKey (.int .i64 x)) cnt5 ∧ w6.ownsMap Tryz.prog 89 (plainElem Tryz.prog 4) bi n D ∧ SetC D S ∧ Tq w2 w6 bi bt ks (fun _ => 0) ∧ (∀ p, S p = true → PrP g.edges p) ∧ (∀ a b, IsNb g.edges a b → (left (.int .i64 a) && !(Lit.int .i64 a).sameKey (.int .i64 x)) = false → S (nm a b) = true ∨ a = x) ∧ ∀ y ∈ (L x).take j, S (nm x y) = true) (fun _ jv _ => cn - (intOf jv).toNat)
        case atStart => exact ⟨0, n, D, S, by omega, rfl, hrg5, hown5, hS, K5, hsub, hleft2, fun y hy => by simp at hy⟩
        case round =>
          clear hrg5 hown5 hS K5 hsub hleft2
          obtain ⟨j, n, D, S, hj, rfl, hrg, hown, hS, K, hsub, hleft, hdn⟩ := hrel
          by_cases hlt : j < cn
          · have g0 : decide ((j : Int) < cn) = true := decide_eq_true (by omega)
            have g0' : decide (j < cn) = true := decide_eq_true hlt
            have g0'' : (j : Int) < cn := by omega
            have hjL : j < (L x).length := by rw [HCN.out]; exact hlt
            have hrow := (hN.below (hfr wr K.below)).rows.own x
            rw [HF.out, HCN.out] at hrow
            obtain ⟨gx, cx', hEq, _, _, hat, _⟩ := own_at hrow (by omega)
            injection hEq with e1 _ e3
            subst e1
            subst e3
            have z2 : wr.cell? ⟨gx, j, none⟩ = some (.int .i64 (L x)[j]) := by
              have := hat j (.int .i64 (L x)[j]) (by rw [List.getElem?_map, List.getElem?_eq_getElem hjL]; rfl)
              rwa [Nat.zero_add] at this
            have hnb := (hLm x _).1 (List.getElem_mem hjL)
            have hdn2 : ∀ (S' : Int × Int → Bool), (∀ y, S y = true → S' y = true) → S' (nm x (L x)[j]) = true → ∀ y ∈ (L x).take (j + 1), S' (nm x y) = true := fun S' h1 h2 y hy => by
              rw [take_snoc' _ j hjL, List.mem_append, List.mem_singleton] at hy
              rcases hy with hy | rfl
              · exact h1 _ (hdn y hy)
              · exact h2
            obtain ⟨y, hy⟩ : ∃ y, (L x)[j] = y := ⟨_, rfl⟩
            rw [hy] at z2 hnb hdn2
            have hpp := prp_nm.2 hnb
            have hpI2 := hpI _ hpp
            have hfit := setc_fit hS hown (fun p hp => hpk p (hsub p hp))
            clear hat hrow hy hdn
            go_wp2_with (go_at_call 53; refine (pairOf_any _ _ _).mono ?_; rintro e wA ⟨rfl, hA⟩; obtain ⟨wB, hrB, hoB, hgB⟩ := setc_store (own_blockC hfit (hA.block bi hfit.lt)) (by omega) hpI2)
            have KB := (K.step hA hB2).grow hgB (Nat.le_refl _) hne hB2
            have hrgB := (hrg.kept (grown_of_below hA) (by simp) (by simp)).kept hgB (fun e => hbib (Option.some.inj e)) (fun e => hrbi (Option.some.inj e))
            have hSB := hS.put hpI2
            have hsubB : ∀ p, (decide (p = nm x y) || S p) = true → PrP g.edges p := fun p hp => by
              rw [Bool.or_eq_true, decide_eq_true_eq] at hp
              rcases hp with rfl | hp
              · exact hpp
              · exact hsub p hp
            have hleftB : ∀ a b, IsNb g.edges a b → (left (.int .i64 a) && !(Lit.int .i64 a).sameKey (.int .i64 x)) = false → (decide (nm a b = nm x y) || S (nm a b)) = true ∨ a = x := fun a b q e => (hleft a b q e).imp_left (fun e2 => by rw [e2, Bool.or_true])
            have hdnB := hdn2 (fun p => decide (p = nm x y) || S p) (fun y e => by rw [e, Bool.or_true]) (by simp)
            go_round
            case rel => exact ⟨j + 1, _, _, _, by omega, by go_num, hrgB, hoB, hSB, KB, hsubB, hleftB, hdnB⟩
            case measure => first | (simp [intOf]; done) | (simp [intOf]; omega)
          · have hj3 : j = cn := by omega
            subst hj3
            have g0 : decide ((j : Int) < j) = false := decide_eq_false (by omega)
            have hle6 := hrg.left_eq
            have hleft3 : ∀ a b, IsNb g.edges a b → (left (.int .i64 a) && !(Lit.int .i64 a).sameKey (.int .i64 x)) = false → S (nm a b) = true := fun a b q e => by
              rcases hleft a b q e with e | e
              · exact e
              · subst e
                exact hdn b (by rw [List.take_of_length_le (by rw [HCN.out]; omega)]; exact (hLm a b).2 q)
            go_wp2_with fail
            go_roundw
            case rel => exact ⟨_, cnt5, n, D, S, hrg, hown, hS, K, hsub, hleft3⟩
            case measure => rw [hle6, hle0]; exact hlt5
end Go.Proofs.YtbaljljlahhkfaaGreatDoor
