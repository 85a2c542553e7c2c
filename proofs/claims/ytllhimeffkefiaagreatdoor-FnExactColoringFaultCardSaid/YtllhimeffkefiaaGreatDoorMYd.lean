/- Texts of one proof, joined in their order: each bears its own word of what it holds and on what condition. -/
import Derived.Test.YtllhimeffkefiaaGreatDoorMYc
import Derived.Maps.RangeWalk
set_option linter.unusedVariables false
set_option linter.unusedSimpArgs false
/- impl's neighbours: of each node its neighbours. Condition: a right graph. -/
set_option linter.unusedVariables false
set_option linter.unusedSimpArgs false
namespace Go.Proofs.YtllhimeffkefiaaGreatDoor
open Go.RowKit Go.Sort

/-- x is a neighbour of a -/
def IsNb (es : List Ed) (a x : Int) : Prop := ∃ e ∈ es, e.src ≠ e.dst ∧ ((e.src = a ∧ e.dst = x) ∨ (e.dst = a ∧ e.src = x))
def nbStep (L : Int → List Int) (e : Ed) : Int → List Int := if e.src = e.dst then L else putL (putL L e.src e.dst) e.dst e.src
def nbOf (es : List Ed) : Int → List Int := es.foldl nbStep (fun _ => [])
theorem putL_mem {L : Int → List Int} {a x b y : Int} : y ∈ putL L a x b ↔ y ∈ L b ∨ (b = a ∧ y = x) := by
  unfold putL
  by_cases h : (L a).contains x = true
  · rw [if_pos h]
    have h : x ∈ L a := by simpa using h
    constructor
    · exact .inl
    · rintro (q | ⟨rfl, rfl⟩)
      · exact q
      · exact h
  · rw [if_neg h]
    unfold updL
    by_cases e : b = a
    · rw [if_pos e]; subst e; simp
    · rw [if_neg e]; simp [e]
theorem putL_nodup {L : Int → List Int} {a x : Int} (h : ∀ b, (L b).Nodup) (b : Int) : (putL L a x b).Nodup := by
  unfold putL
  by_cases hc : (L a).contains x = true
  · rw [if_pos hc]; exact h b
  · rw [if_neg hc]
    unfold updL
    split
    · have hc : x ∉ L a := by simpa using hc
      rw [List.nodup_append]
      exact ⟨h a, by simp, fun p hp q hq e => by simp at hq; subst hq; subst e; exact hc hp⟩
    · exact h b
theorem nbStep_mem {L : Int → List Int} {e : Ed} {a x : Int} : x ∈ nbStep L e a ↔ x ∈ L a ∨ (e.src ≠ e.dst ∧ ((e.src = a ∧ e.dst = x) ∨ (e.dst = a ∧ e.src = x))) := by
  unfold nbStep
  by_cases h : e.src = e.dst
  · rw [if_pos h]; simp [h]
  · rw [if_neg h, putL_mem, putL_mem]
    constructor
    · rintro ((q | ⟨rfl, rfl⟩) | ⟨rfl, rfl⟩)
      · exact .inl q
      · exact .inr ⟨h, .inl ⟨rfl, rfl⟩⟩
      · exact .inr ⟨h, .inr ⟨rfl, rfl⟩⟩
    · rintro (q | ⟨_, ⟨rfl, rfl⟩ | ⟨rfl, rfl⟩⟩)
      · exact .inl (.inl q)
      · exact .inl (.inr ⟨rfl, rfl⟩)
      · exact .inr ⟨rfl, rfl⟩
theorem nbStep_nodup {L : Int → List Int} {e : Ed} (h : ∀ b, (L b).Nodup) (b : Int) : (nbStep L e b).Nodup := by
  unfold nbStep
  split
  · exact h b
  · exact putL_nodup (fun c => putL_nodup h c) b
theorem nbOf_snoc (es : List Ed) (e : Ed) : nbOf (es ++ [e]) = nbStep (nbOf es) e := by unfold nbOf; rw [List.foldl_append]; rfl
theorem nbFold_mem {a x : Int} : ∀ (es : List Ed) (L : Int → List Int), x ∈ es.foldl nbStep L a ↔ x ∈ L a ∨ IsNb es a x
  | [], L => by simp [IsNb]
  | e :: es, L => by
    rw [List.foldl_cons, nbFold_mem es, nbStep_mem]
    unfold IsNb
    simp only [List.mem_cons, exists_eq_or_imp]
    constructor
    · rintro ((q | q) | q)
      · exact .inl q
      · exact .inr (.inl q)
      · exact .inr (.inr q)
    · rintro (q | q | q)
      · exact .inl (.inl q)
      · exact .inl (.inr q)
      · exact .inr q
theorem nbOf_mem {es : List Ed} {a x : Int} : x ∈ nbOf es a ↔ IsNb es a x := by unfold nbOf; rw [nbFold_mem]; simp
theorem nbFold_nodup {b : Int} : ∀ (es : List Ed) (L : Int → List Int), (∀ b, (L b).Nodup) → (es.foldl nbStep L b).Nodup
  | [], L, h => h b
  | e :: es, L, h => by rw [List.foldl_cons]; exact nbFold_nodup es _ (fun b => nbStep_nodup h b)
theorem nbOf_nodup (es : List Ed) (b : Int) : (nbOf es b).Nodup := nbFold_nodup es _ (fun _ => List.nodup_nil)
theorem nb_len {g : Gr} (h : Gw g) {es : List Ed} (hs : ∀ e ∈ es, e ∈ g.edges) {l : List Int} (hn : l.Nodup) {a : Int} (hm : ∀ x ∈ l, IsNb es a x) : l.length ≤ 200 := by
  have := nodup_le l (idsOf g.nodes) hn (fun x hx => by
    obtain ⟨e, he, _, q⟩ := hm x hx
    obtain ⟨m1, m2⟩ := gOk_mem h (hs e he)
    rcases q with ⟨_, rfl⟩ | ⟨_, rfl⟩
    · exact m2
    · exact m1)
  unfold idsOf at this
  rw [List.length_map] at this
  exact Nat.le_trans this h.n
theorem RowsV.keptOwn {w w' : World} {base : Nat} {F : Int → Value} {L : Int → List Int} (h : RowsV w base F L) (hk : ∀ id q, (F id).ownBlock = some q → w'.heap[q]? = w.heap[q]?) : RowsV w' base F L := by
  refine ⟨fun id => ?_, h.sep⟩
  have ho := h.own id
  refine ⟨ho.1, ?_⟩
  rcases ho.2 with hn | ⟨g, cap, cur, he, hb, hgg, rest⟩
  · exact .inl hn
  · exact .inr ⟨g, cap, cur, he, hb, (hk id g (by rw [he]; rfl)).trans hgg, rest⟩
theorem updV_self (F : Int → Value) (x : Int) : updV F x (F x) = F := by
  funext j
  unfold updV
  split
  · rename_i e; rw [e]
  · rfl
/-- the map of the neighbours -/
def NbR (g : Gr) (w : World) (e : Ending) (w' : World) : Prop := ∃ (bm base : Nat) (F : Int → Value) (L : Int → List Int), e = .returned (.map (some bm)) ∧ NbS w' bm base (idsOf g.nodes) F L ∧ (∀ a x, x ∈ L a ↔ IsNb g.edges a x) ∧ (∀ a, (L a).Nodup) ∧ w.heap.size ≤ bm ∧ Below w.heap.size w w'
set_option maxHeartbeats 4000000 in
set_option maxRecDepth 100000 in
theorem neighbours_any (w : World) (S : Nat → Prop) (v : Value) (g : Gr) (h : RGr w S v g) (hw : Gw g) : Calls Tryz.prog 76 #[v] w (NbR g w) := by
  have h0 := h.within
  obtain ⟨v1, v2, rfl, h1, h2⟩ := h
  obtain ⟨a1, c1, rfl⟩ := h1.shape
  obtain ⟨a2, c2, rfl⟩ := h2.shape
  obtain ⟨n1, hn1⟩ : ∃ n, g.nodes.length = n := ⟨_, rfl⟩
  obtain ⟨n2, hn2⟩ : ∃ n, g.edges.length = n := ⟨_, rfl⟩
  have HN1 := Lib.hid hn1
  have HN2 := Lib.hid hn2
  rw [hn1, hn2] at h0
  rw [hn1, hn2]
  clear h1 h2 hn1 hn2
  obtain ⟨w1', w2', hu, _, hEd⟩ := h0
  injection hu with hu
  have hu := Array.mk.inj hu
  simp only [List.cons.injEq, and_true] at hu
  obtain ⟨rfl, rfl⟩ := hu
  have hlen := hw.e
  rw [HN2.out] at hlen
  have hn2' : (n2 : Int) ≤ 400 := by omega
  have hkl : (idsOf g.nodes).length < 1048576 := by unfold idsOf; rw [List.length_map]; have := hw.n; omega
  have hmm := @run_makeMap Tryz.prog
  go_enter Tryz.func76, Tryz.ntmps76
  go_upto_region 3 with fail
  have e1 : (w.alloc (.cells #[.slice a1 n1 c1, .slice a2 n2 c2] 36)).heap.size = w.heap.size + 1 := by simp
  have e2 : ((w.alloc (.cells #[.slice a1 n1 c1, .slice a2 n2 c2] 36)).alloc (.map #[] 0)).heap.size = w.heap.size + 1 + 1 := by simp
  have hbs : (((w.alloc (.cells #[.slice a1 n1 c1, .slice a2 n2 c2] 36)).alloc (.map #[] 0)).alloc (.cells #[.map (some (w.heap.size + 1))] 129)).heap.size = w.heap.size + 3 := by simp
  have q1 : (((w.alloc (.cells #[.slice a1 n1 c1, .slice a2 n2 c2] 36)).alloc (.map #[] 0)).alloc (.cells #[.map (some (w.heap.size + 1))] 129)).cell? ⟨w.heap.size, 1, none⟩ = some (.slice a2 n2 c2) := cell_alloc (cell_alloc (by rw [World.cell?_alloc_mark]; rfl) _) _
  have hbo : (((w.alloc (.cells #[.slice a1 n1 c1, .slice a2 n2 c2] 36)).alloc (.map #[] 0)).alloc (.cells #[.map (some (w.heap.size + 1))] 129)).cell? ⟨w.heap.size + 1 + 1, 0, none⟩ = some (.map (some (w.heap.size + 1))) := by rw [← e2, World.cell?_alloc_mark]; rfl
  have hmap : MapV (((w.alloc (.cells #[.slice a1 n1 c1, .slice a2 n2 c2] 36)).alloc (.map #[] 0)).alloc (.cells #[.map (some (w.heap.size + 1))] 129)) (w.heap.size + 1) (idsOf g.nodes) (fun _ => nilS) := by
    have h := MapV.made (w.alloc (.cells #[.slice a1 n1 c1, .slice a2 n2 c2] 36)) (idsOf g.nodes)
    rw [e1] at h
    exact h.block (((Below.refl _ _).alloc (Nat.le_refl _) _).block _ h.lt)
  have hbW : Below w.heap.size w (((w.alloc (.cells #[.slice a1 n1 c1, .slice a2 n2 c2] 36)).alloc (.map #[] 0)).alloc (.cells #[.map (some (w.heap.size + 1))] 129)) := (((Below.refl _ w).alloc (Nat.le_refl _) _).alloc (by simp) _).alloc (by simp <;> omega) _
  generalize ((w.alloc (.cells #[.slice a1 n1 c1, .slice a2 n2 c2] 36)).alloc (.map #[] 0)).alloc (.cells #[.map (some (w.heap.size + 1))] 129) = W1 at hbs q1 hbo hmap hbW ⊢
  obtain ⟨bg, hbg⟩ : ∃ b, w.heap.size = b := ⟨_, rfl⟩
  have HB := Lib.hid hbg
  rw [hbg] at hbs q1 hbo hmap
  obtain ⟨bm, hbm⟩ : ∃ b, bg + 1 = b := ⟨_, rfl⟩
  obtain ⟨bo, hbo2⟩ : ∃ b, bm + 1 = b := ⟨_, rfl⟩
  simp only [hbg, hbm, hbo2]
  rw [hbm] at hbo hmap
  rw [hbo2] at hbo
  have HM := Lib.hid hbm
  have HO := Lib.hid hbo2
  have hN0 : NbS W1 bm (bg + 3) (idsOf g.nodes) (fun _ => nilS) (nbOf (g.edges.take 0)) := ⟨hmap, RowsV.made _ _, by omega, by omega⟩
  have hBO : bo < bg + 3 := by omega
  have hBG : bg < bg + 3 := by omega
  have hgm : bg ≠ bm := by omega
  have hom : bo ≠ bm := by omega
  have HBS := Lib.hid hbs
  clear hbg hbm hbo2 e1 e2 hmap hbs
  obtain ⟨base, hbase⟩ : ∃ b, bg + 3 = b := ⟨_, rfl⟩
  rw [hbase] at hN0 hBO hBG
  have HBASE := Lib.hid hbase
  clear hbase
  go_upto_region 4 with fail
  go_wp2_with fail
  go_loopw [6, 14] (fun _ iv wr => ∃ (j : Nat) (F : Int → Value), j ≤ n2 ∧ iv = .int .i64 j ∧ NbS wr bm base (idsOf g.nodes) F (nbOf (g.edges.take j)) ∧ Fx W1 wr bm base) (fun _ iv _ => n2 - (intOf iv).toNat)
  case atStart => exact ⟨0, _, by omega, rfl, hN0, Fx.refl _ _ _⟩
  case round =>
    clear hN0
    obtain ⟨j, F, hj, rfl, hN, hx⟩ := hrel
    have qo := cell_kept (fun hl => hx.block bo hBO hom) hbo
    by_cases hlt : j < n2
    · have f0 : decide ((j : Int) < n2) = true := decide_eq_true (by omega)
      have f0' : decide (j < n2) = true := decide_eq_true hlt
      have hlt2 : (j : Int) < n2 := by omega
      have hjE : j < g.edges.length := by rw [HN2.out]; exact hlt
      have hEr := hEd.kept EEd.kept (fun b hS hl => (hx.block b (by have := HBASE.out; have := HB.out; omega) (by have := HM.out; have := HB.out; omega)).trans (hbW.block b hl))
      obtain ⟨bE, oE, l3, d3, rfl, -, ed0, ed1, ed2, ed3, ed4, -, -⟩ := REd.at hEr hjE
      obtain ⟨m1, m2⟩ := gOk_mem hw (List.getElem_mem hjE)
      have hi1 := id_I64 (hw.id _ m1)
      have hi2 := id_I64 (hw.id _ m2)
      have hT : nbOf (g.edges.take (j + 1)) = nbStep (nbOf (g.edges.take j)) g.edges[j] := by rw [take_snoc' _ j hjE, nbOf_snoc]
      have hlen1 : ∀ a, (nbOf (g.edges.take (j + 1)) a).length ≤ 200 := fun a => nb_len hw (fun e he => List.mem_of_mem_take he) (nbOf_nodup _ a) (fun x hx => nbOf_mem.1 hx)
      have hlen0 : ∀ a, (nbOf (g.edges.take j) a).length ≤ 200 := fun a => nb_len hw (fun e he => List.mem_of_mem_take he) (nbOf_nodup _ a) (fun x hx => nbOf_mem.1 hx)
      generalize g.edges[j] = ed at ed0 ed1 ed2 ed3 ed4 m1 m2 hi1 hi2 hT
      obtain ⟨yi, yt, ys, yd, yf⟩ := ed
      simp only at ed0 ed1 ed2 ed3 ed4 m1 m2 hi1 hi2 hT
      obtain ⟨yl, hyl⟩ : ∃ x, yf.length = x := ⟨_, rfl⟩
      rw [hyl] at ed4
      clear hyl hEr
      unfold nbStep at hT
      simp only at hT
      go_upto_region 6 with fail
      have hbA := (Below.refl _ wr).alloc (Nat.le_refl _) (.cells #[.int .i64 yi, .string yt, .int .i64 ys, .int .i64 yd, .slice l3 yl d3] 122)
      have hN2 := hN.below hbA
      have hx2 := hx.trans (Fx.of_below hbA hN.sz)
      have d2' : (wr.alloc (.cells #[.int .i64 yi, .string yt, .int .i64 ys, .int .i64 yd, .slice l3 yl d3] 122)).cell? ⟨wr.heap.size, 2, none⟩ = some (.int .i64 ys) := by rw [World.cell?_alloc_mark]; rfl
      have d3' : (wr.alloc (.cells #[.int .i64 yi, .string yt, .int .i64 ys, .int .i64 yd, .slice l3 yl d3] 122)).cell? ⟨wr.heap.size, 3, none⟩ = some (.int .i64 yd) := by rw [World.cell?_alloc_mark]; rfl
      have qo2 := cell_alloc qo (.cells #[.int .i64 yi, .string yt, .int .i64 ys, .int .i64 yd, .slice l3 yl d3] 122)
      generalize wr.alloc (.cells #[.int .i64 yi, .string yt, .int .i64 ys, .int .i64 yd, .slice l3 yl d3] 122) = W2 at hN2 hx2 d2' d3' qo2 ⊢
      obtain ⟨be, hbe⟩ : ∃ b, wr.heap.size = b := ⟨_, rfl⟩
      rw [hbe] at d2' d3'
      simp only [hbe]
      have HBE := Lib.hid hbe
      clear ed0 ed1 ed2 ed3 ed4 hbA hbe
      by_cases hs : ys = yd
      · have g1 : (ys != yd) = false := by rw [bne_eq_false_iff_eq]; exact hs
        rw [if_pos hs] at hT
        clear hs
        go_wp2_with fail
        go_round
        case rel => exact ⟨j + 1, F, by omega, by go_num, by rw [hT]; exact hN2, hx2⟩
        case measure => simp [intOf]; omega
      · have g1 : (ys != yd) = true := by rw [bne_iff_ne]; exact hs
        rw [if_neg hs] at hT
        clear hs
        have hob : ∀ id, (F id).ownBlock ≠ some be := fun id e => by have := (hN.rows.own id).lt be e; have := HBE.out; omega
        have hbe3 : be < W2.heap.size := lt_of_cell d2'
        have hbm3 : be ≠ bm := by have := hN.map.lt; have := HBE.out; omega
        go_upto_region 8 with (go_at_call 100; refine (put_any W2 bo bm base _ F _ hN2 hBO qo2 hkl ys yd m1 hi1 (Nat.le_trans (hlen0 _) (by decide))).mono ?_; rintro e w5 ⟨rfl, F5, hN5, hx5, hfo5⟩)
        have d25 := cell_kept (fun hl => hfo5 be hl hbm3 hob) d2'
        have d35 := cell_kept (fun hl => hfo5 be hl hbm3 hob) d3'
        have qo5 := cell_kept (fun hl => hx5.block bo hBO hom) qo2
        have hl5 : (putL (nbOf (g.edges.take j)) ys yd yd).length ≤ 1000 := by
          have := hlen0 yd
          unfold putL
          split
          · omega
          · unfold updL
            split
            · rw [List.length_append]; have := hlen0 ys; simp; omega
            · omega
        go_wp2_with (go_at_call 100; refine (put_any w5 bo bm base _ F5 _ hN5 hBO qo5 hkl yd ys m2 hi2 hl5).mono ?_; rintro e w6 ⟨rfl, F6, hN6, hx6, hfo6⟩)
        go_round
        case rel => exact ⟨j + 1, F6, by omega, by go_num, by rw [hT]; exact hN6, (hx2.trans hx5).trans hx6⟩
        case measure => simp [intOf]; omega
    · have hj3 : j = n2 := by omega
      subst hj3
      have f0 : decide ((j : Int) < j) = false := decide_eq_false (by omega)
      rw [List.take_of_length_le (by rw [HN2.out]; omega)] at hN
      obtain ⟨l, hown, hkeys, hat⟩ := hN.map
      go_upto_region 11 with (first
        | (at_range; refine wpList_range_own _ rfl _ 129 rfl 2 27 kmap2 Tryz.underlying129 _ bm (idsOf g.nodes).length _ rfl hown ?_; intro w0 hrg0 hg0 hs0)
        | fail)
      go_frame
      obtain ⟨r, hr⟩ : ∃ r, wr.heap.size = r := ⟨_, rfl⟩
      rw [hr] at hrg0 hs0
      have hFr : ∀ id q, (F id).ownBlock = some q → base ≤ q ∧ q < r := fun id q e => by rw [← hr]; exact (hN.rows.own id).lt q e
      have hbr : base ≤ r := by rw [← hr]; exact hN.sz
      have hR0 : RowsV w0 base F (nbOf g.edges) := hN.rows.keptOwn (fun id q e => hg0.block q (by have := (hFr id q e).2; omega) (by simp))
      have hx0 := hx.trans (Fx.grown hg0 hN.sz (fun q e => by cases e))
      have hlb := hN.lo
      have HLen := Lib.hid (fun a => nb_len hw (fun e he => he) (nbOf_nodup g.edges a) (fun x hx => nbOf_mem.1 hx))
      simp only [hr]
      clear hs0 hown hg0 hN hx qo hr
      go_loopw [8] (fun _ wr2 => ∃ (left : Lit → Bool) (cnt : Nat) (L' : Int → List Int), wr2.ranges Tryz.prog 2 slElem bm r (idsOf g.nodes).length (.map l) left cnt ∧ RowsV wr2 base F L' ∧ (∀ a, (L' a).Perm (nbOf g.edges a)) ∧ Fx W1 wr2 bm base) (fun _ wr2 => wr2.rangeLeft bm r)
      case atStart => exact ⟨_, _, _, hrg0, hR0, fun a => List.Perm.refl _, hx0⟩
      case round =>
        clear hrg0 hR0 hx0
        obtain ⟨left, cnt, L', hrg, hR, hP, hx⟩ := hrel
        have qo := cell_kept (fun hl => hx.block bo hBO hom) hbo
        go_upto_region 12 with (at_next; refine wpList_next_ranges _ rfl _ rfl 2 kmap2 slElem (Value.int .i64) (fun c : Option Addr × Nat × Nat => .slice c.1 c.2.1 c.2.2) (fun key kl hk => by obtain ⟨x, rfl, _⟩ := Maps.keyOf_int_inv Tryz.underlying2 hk; exact ⟨x, rfl⟩) (fun v y hv => by obtain ⟨a, n, c, rfl, _⟩ := slElem_inv hv; exact ⟨(a, n, c), rfl⟩) bm r _ _ _ _ rfl hrg ?_ ?_)
        · intro _ _
          have hown2 := hrg.owns
          go_wp2_with fail
          go_ret
          have hbB := hbW
          refine ⟨bm, base, F, L', rfl, ⟨⟨l, hown2, hkeys, hat⟩, hR, hlb, ?_⟩, fun a x => ?_, fun a => (hP a).nodup_iff.2 (nbOf_nodup _ a), ?_, ?_⟩
          · have := HBS.out; have := HBASE.out; have := hx.size; omega
          · rw [(hP a).mem_iff]; exact nbOf_mem
          · have := HM.out; have := HB.out; omega
          · exact ⟨hx.os.trans hbW.os, hx.tape.trans hbW.tape, hx.output.trans hbW.output, Nat.le_trans hbW.size hx.size, fun b hb => (hx.block b (by have := HBASE.out; have := HB.out; omega) (by have := HM.out; have := HB.out; omega)).trans (hbW.block b hb)⟩
        · intro x ca cn cc kl yd yp w1 cnt1 hkey hlx hRc hatD hrg1 hlt hg1 hs1 hen
          obtain ⟨x', ex, rfl, hwx⟩ := Maps.keyOf_int_inv Tryz.underlying2 hkey
          injection ex with _ ex
          subst ex
          have hy : yd = .held (.slice ca cn cc) := (congrArg Prod.fst (Option.some.inj hRc)).symm
          have hFx : F x = .slice ca cn cc := by
            have := hatD (.held nilS)
            rw [hat x, hy] at this
            injection this
          have hR1 := hR.keptOwn (w' := w1) (fun id q e => hg1.block q (by have := ((hR.own id).lt q e).2; exact this) (fun e2 => by have := Option.some.inj e2; have := (hFr id q e).2; omega))
          have hsort := sort_row w1 base (F x) (L' x) (hR1.own x) (by rw [(hP x).length_eq]; exact Nat.le_trans (HLen.out x) (by decide))
          rw [hFx] at hsort
          have hbmr := hrg.ne
          have hle := hrg1.left_eq
          clear hkey hRc hatD hy
          go_wp2_with (go_at_call 89; refine hsort.mono ?_; rintro e w2 ⟨rfl, l', hp, hown2, hg2⟩)
          have hob : ∀ q, (Value.slice ca cn cc).ownBlock = some q → base ≤ q ∧ q < r := fun q e => hFr x q (by rw [hFx]; exact e)
          have hrg2 := hrg1.kept hg2 (fun e => by have := (hob bm e.symm).1; omega) (fun e => by have := (hob r e.symm).2; omega)
          have hR2 : RowsV w2 base F (updL L' x l') := by
            have := hR1.put x (v := F x) (l := l') (fun q hq hl hne => hg2.block q hl (fun e => hne (by rw [hFx]; exact e.symm))) (fun q hq => .inl hq) (by rw [hFx]; exact hown2)
            rwa [updV_self] at this
          have hs2 : base ≤ w1.heap.size := by have := hrg1.lt; omega
          have hbw : base ≤ wr.heap.size := by have := hrg.lt; omega
          go_roundw
          case rel =>
            refine ⟨_, cnt1, updL L' x l', hrg2, hR2, fun a => ?_, (hx.trans (Fx.grown hg1 hbw (fun q e => by have := Option.some.inj e; omega))).trans (Fx.grown hg2 hs2 (fun q e => .inr (hob q e).1))⟩
            unfold updL
            split
            · rename_i e; rw [e]; exact hp.trans (hP x)
            · exact hP a
          case measure => rw [hrg2.left_eq, hrg.left_eq]; exact hlt
end Go.Proofs.YtllhimeffkefiaaGreatDoor
