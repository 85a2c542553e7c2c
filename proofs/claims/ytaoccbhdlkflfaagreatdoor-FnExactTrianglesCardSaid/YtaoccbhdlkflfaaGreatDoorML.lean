/- Texts of one proof, joined in their order: each bears its own word of what it holds and on what condition. -/
import Derived.Test.YtaoccbhdlkflfaaGreatDoorMK
import Derived.Test.YtaoccbhdlkflfaaGreatDoorMSs
import Derived.Test.YtaoccbhdlkflfaaGreatDoorMA
set_option linter.unusedVariables false
set_option linter.unusedSimpArgs false
/- The specification's WeakParts, whole; the plain law of what is reached. -/
set_option linter.unusedVariables false
set_option linter.unusedSimpArgs false
namespace Go.Proofs.YtaoccbhdlkflfaaGreatDoor
open Go.RowKit Go.Sort

theorem gOk_inj {g : Gr} (h : Gw g) {i j : Nat} (hi : i < g.nodes.length) (hj : j < g.nodes.length) (e : g.nodes[i].id = g.nodes[j].id) : i = j := by
  rcases Nat.lt_trichotomy i j with q | q | q
  · have := h.rise _ _ hj q; omega
  · exact q
  · have := h.rise _ _ hi q; omega
theorem gOk_pos {g : Gr} (h : Gw g) {id : Int} (hid : id ∈ idsOf g.nodes) : ∃ (p : Nat) (hp : p < g.nodes.length), posN g.nodes id 0 = (p : Int) ∧ g.nodes[p].id = id := by
  obtain ⟨p, hp, h1, h2⟩ := posN_get g.nodes id 0 (thr_iff.2 hid)
  exact ⟨p, hp, by simpa using h1, h2⟩
theorem ids_at {ns : List Nd} {i : Nat} (hi : i < ns.length) : ns[i].id ∈ idsOf ns := List.mem_map.2 ⟨_, List.getElem_mem hi, rfl⟩
theorem gOk_posAt {g : Gr} (h : Gw g) {i : Nat} (hi : i < g.nodes.length) : posN g.nodes g.nodes[i].id 0 = (i : Int) := by
  obtain ⟨p, hp, h1, h2⟩ := gOk_pos h (ids_at hi)
  rw [h1, gOk_inj h hp hi h2]
theorem gOk_mem {g : Gr} (h : Gw g) {e : Ed} (he : e ∈ g.edges) : e.src ∈ idsOf g.nodes ∧ e.dst ∈ idsOf g.nodes := by
  obtain ⟨k, hk, rfl⟩ := List.mem_iff_getElem.1 he
  exact h.ends _ hk
theorem lnks_iff {g : Gr} (h : Gw g) {i j : Nat} (hi : i < g.nodes.length) (hj : j < g.nodes.length) : lnks g.nodes g.edges i j = true ↔ i ≠ j ∧ ∃ e ∈ g.edges, (e.src = g.nodes[i].id ∧ e.dst = g.nodes[j].id) ∨ (e.dst = g.nodes[i].id ∧ e.src = g.nodes[j].id) := by
  unfold lnks
  rw [List.any_eq_true]
  constructor
  · rintro ⟨e, he, hl⟩
    obtain ⟨h1, h2⟩ := gOk_mem h he
    obtain ⟨p, hp, p1, p2⟩ := gOk_pos h h1
    obtain ⟨q, hq, q1, q2⟩ := gOk_pos h h2
    unfold lnk at hl
    rw [p1, q1] at hl
    simp only [Bool.and_eq_true, Bool.or_eq_true, decide_eq_true_eq] at hl
    obtain ⟨hne, ⟨a, b⟩ | ⟨a, b⟩⟩ := hl
    · have a' : p = i := by omega
      have b' : q = j := by omega
      subst a' b'
      exact ⟨by omega, e, he, .inl ⟨p2.symm, q2.symm⟩⟩
    · have a' : q = i := by omega
      have b' : p = j := by omega
      subst a' b'
      exact ⟨by omega, e, he, .inr ⟨q2.symm, p2.symm⟩⟩
  · rintro ⟨hne, e, he, ⟨a, b⟩ | ⟨a, b⟩⟩
    · refine ⟨e, he, ?_⟩
      unfold lnk
      rw [a, b, gOk_posAt h hi, gOk_posAt h hj]
      simp
      omega
    · refine ⟨e, he, ?_⟩
      unfold lnk
      rw [a, b, gOk_posAt h hi, gOk_posAt h hj]
      simp
      omega
theorem Rch.lt {n : Nat} {M : Nat → Nat → Bool} {a b : Nat} (h : Rch n M a b) (ha : a < n) : b < n := by
  cases h with
  | refl => exact ha
  | step _ h _ => exact h
theorem rch_con {g : Gr} (h : Gw g) {i : Nat} (hi : i < g.nodes.length) {k : Nat} (hr : Rch g.nodes.length (lnks g.nodes g.edges) i k) : ∃ hk : k < g.nodes.length, Con g.edges g.nodes[i].id g.nodes[k].id := by
  induction hr with
  | refl => exact ⟨hi, .refl _⟩
  | step hb hc hm ih =>
    obtain ⟨hk, ih⟩ := ih
    obtain ⟨_, e, he, q⟩ := (lnks_iff h hk hc).1 hm
    exact ⟨hc, ih.step ⟨e, he, q⟩⟩
theorem con_rch {g : Gr} (h : Gw g) {i : Nat} (hi : i < g.nodes.length) {y : Int} (hc : Con g.edges g.nodes[i].id y) : ∃ (k : Nat) (hk : k < g.nodes.length), g.nodes[k].id = y ∧ Rch g.nodes.length (lnks g.nodes g.edges) i k := by
  generalize hx : g.nodes[i].id = x at hc
  induction hc with
  | refl => exact ⟨i, hi, hx, .refl⟩
  | step _ he ih =>
    obtain ⟨k, hk, hky, hr⟩ := ih
    obtain ⟨e, he, q⟩ := he
    have hm := gOk_mem h he
    obtain ⟨k', hk', _, hk2⟩ := gOk_pos h (id := _) (by rcases q with q | q; exact q.2 ▸ hm.2; exact q.2 ▸ hm.1)
    by_cases e2 : k = k'
    · subst e2; exact ⟨k, hk, hk2, hr⟩
    · exact ⟨k', hk', hk2, hr.step hk' ((lnks_iff h hk hk').2 ⟨e2, e, he, by rw [hky, hk2]; exact q⟩)⟩
/-- the least that is reached -/
def Least (g : Gr) (j : Nat) (x : Int) : Prop := ∃ (m : Nat) (hm : m < g.nodes.length), x = g.nodes[m].id ∧ Rch g.nodes.length (lnks g.nodes g.edges) j m ∧ ∀ k, k < m → ¬ Rch g.nodes.length (lnks g.nodes g.edges) j k
theorem least_part {g : Gr} (h : Gw g) (nums : Nat → Int) (hn : ∀ j, j < g.nodes.length → Least g j (nums j)) : ∃ f, IsPart (idsOf g.nodes) g.edges f ∧ ∀ j (hj : j < g.nodes.length), f g.nodes[j].id = nums j := by
  refine ⟨fun id => nums (posN g.nodes id 0).toNat, fun id hid => ?_, fun j hj => ?_⟩
  · obtain ⟨p, hp, p1, p2⟩ := gOk_pos h hid
    subst p2
    simp only [p1, Int.toNat_natCast]
    obtain ⟨m, hm, e, hr, hmin⟩ := hn p hp
    rw [e]
    refine ⟨ids_at hm, (rch_con h hp hr).2, fun y hy hc => ?_⟩
    obtain ⟨k, hk, rfl, hr2⟩ := con_rch h hp hc
    by_cases hkm : k < m
    · exact absurd hr2 (hmin k hkm)
    · by_cases e2 : m = k
      · subst e2; exact Int.le_refl _
      · exact Int.le_of_lt (h.rise _ _ hk (by omega))
  · simp only [gOk_posAt h hj, Int.toNat_natCast]
theorem fault_bad (w : World) (S : Nat → Prop) (v : Value) (g : Gr) (hb : gOk g = false) (h : RGr w S v g) : Calls Tryz.prog 27 #[v] w (IntB 1 w) := by
  have := graphFault_any w S v g h
  rwa [hb] at this
theorem fault_good (w : World) (S : Nat → Prop) (v : Value) (g : Gr) (hb : gOk g = true) (h : RGr w S v g) : Calls Tryz.prog 27 #[v] w (IntB 0 w) := by
  have := graphFault_any w S v g h
  rwa [hb] at this
end Go.Proofs.YtaoccbhdlkflfaaGreatDoor
/- The specification's WeakParts, whole. No condition on the graph. -/
set_option linter.unusedVariables false
set_option linter.unusedSimpArgs false
namespace Go.Proofs.YtaoccbhdlkflfaaGreatDoor
open Go.RowKit Go.Sort

/-- within WeakParts, once the links are made (world W3): the row of numbers stands at W3's end -/
structure Wk (W3 W : World) (n : Nat) (nums : Nat → Int) : Prop where
  below : Below W3.heap.size W3 W
  num : ∀ j, j < n → W.cell? ⟨W3.heap.size, j, none⟩ = some (.int .i64 (nums j))
  fro : ∀ o, W.frozen? ⟨W3.heap.size, o, none⟩ = false
theorem Wk.step {W3 W W' : World} {n : Nat} {nums : Nat → Int} (h : Wk W3 W n nums) (hz : W3.heap.size < W.heap.size) (hb : Below W.heap.size W W') : Wk W3 W' n nums :=
  ⟨h.below.trans (hb.mono h.below.size), fun j hj => cell_kept (fun hl => hb.block _ hl) (h.num j hj), fun o => (World.frozen?_of_block (a := ⟨W3.heap.size, o, none⟩) (hb.block _ hz)).trans (h.fro o)⟩
theorem Wk.put {W3 W : World} {n : Nat} {nums : Nat → Int} (h : Wk W3 W n nums) {i : Nat} (hi : i < n) (x : Int) : Wk W3 (W.setCell ⟨W3.heap.size, i, none⟩ (.int .i64 x)) n (fun j => if j = i then x else nums j) := by
  refine ⟨⟨h.below.os, h.below.tape, h.below.output, by simp [World.setCell]; exact h.below.size, fun b hb => (Below.heap_setCell _ _ _ _ (by show b ≠ W3.heap.size; omega)).trans (h.below.block b hb)⟩, fun j hj => ?_, fun o => (World.frozen?_setCell _ _ _ _).trans (h.fro o)⟩
  by_cases e : j = i
  · subst e
    rw [if_pos rfl]
    exact World.cell?_setCell_same _ _ _ (h.num j hj)
  · rw [if_neg e]
    exact (World.cell?_setCell_other _ _ _ _ (fun q => e (by injection q with q1 q2; omega))).trans (h.num j hj)
theorem Mx.shape {base : Nat} {W : World} {v : Value} {k n : Nat} {gs : Nat → Nat} {M : Nat → Nat → Bool} (h : Mx base W v k n gs M) : ∃ u1 u2 u3, v = .slice u1 u2 u3 := by
  rcases h.own.2 with ⟨e, _⟩ | ⟨g, cap, cur, e, _⟩
  · exact ⟨_, _, _, e⟩
  · exact ⟨_, _, _, e⟩
/-- the number found among the places from m on -/
def Low (ids : List Nd) (s : Nat → Bool) (m : Nat) (x : Int) : Prop := (∃ (j : Nat) (hj : j < ids.length), m ≤ j ∧ s j = true ∧ x = ids[j].id ∧ ∀ k, m ≤ k → k < j → s k = false) ∨ ∀ k, m ≤ k → k < ids.length → s k = false
theorem Low.none (ids : List Nd) (s : Nat → Bool) (x : Int) : Low ids s ids.length x := .inr fun k h1 h2 => by omega
theorem Low.skip {ids : List Nd} {s : Nat → Bool} {m : Nat} {x : Int} (h : Low ids s (m + 1) x) (hs : s m = false) : Low ids s m x := by
  have st : ∀ k, m ≤ k → k = m ∨ m + 1 ≤ k := fun k h => by omega
  rcases h with ⟨j, hj, h1, h2, h3, h4⟩ | h
  · exact .inl ⟨j, hj, by omega, h2, h3, fun k a b => (st k a).elim (fun e => e ▸ hs) (fun q => h4 k q b)⟩
  · exact .inr fun k a b => (st k a).elim (fun e => e ▸ hs) (fun q => h k q b)
theorem Low.take {ids : List Nd} {s : Nat → Bool} {m : Nat} (hm : m < ids.length) (hs : s m = true) : Low ids s m ids[m].id := .inl ⟨m, hm, Nat.le_refl _, hs, rfl, fun k a b => by omega⟩
theorem Low.least {g : Gr} {s : Nat → Bool} {i : Nat} {x : Int} (h : Low g.nodes s 0 x) (hi : i < g.nodes.length) (hs : ∀ j, j < g.nodes.length → (s j = true ↔ Rch g.nodes.length (lnks g.nodes g.edges) i j)) : Least g i x := by
  rcases h with ⟨j, hj, _, h2, h3, h4⟩ | h
  · exact ⟨j, hj, h3, (hs j hj).1 h2, fun k hk hr => by
      have := (hs k (by omega)).2 hr
      rw [h4 k (Nat.zero_le _) hk] at this
      cases this⟩
  · have := (hs i hi).2 .refl
    rw [h i (Nat.zero_le _) hi] at this
    cases this
set_option maxHeartbeats 2000000 in
set_option maxRecDepth 100000 in
theorem sweak_any (w : World) (S : Nat → Prop) (v : Value) (g : Gr) (h : RGr w S v g) : Calls Tryz.prog 8 #[v] w (WeakR g w) := by
  have h0 := h
  obtain ⟨v1, v2, rfl, h1, h2⟩ := h
  obtain ⟨a1, c1, rfl⟩ := h1.shape
  obtain ⟨a2, c2, rfl⟩ := h2.shape
  obtain ⟨n1, hn1⟩ : ∃ n, g.nodes.length = n := ⟨_, rfl⟩
  obtain ⟨n2, hn2⟩ : ∃ n, g.edges.length = n := ⟨_, rfl⟩
  have HN1 := Lib.hid hn1
  rw [hn1, hn2] at h0
  rw [hn1, hn2]
  rw [hn1] at h1
  clear h2 hn1 hn2
  have hba := (Below.refl _ w).alloc (Nat.le_refl _) (.cells #[.slice a1 n1 c1, .slice a2 n2 c2] 32)
  have r1 := h0.below hba
  have x0 : (w.alloc (.cells #[.slice a1 n1 c1, .slice a2 n2 c2] 32)).cell? ⟨w.heap.size, 0, none⟩ = some (.slice a1 n1 c1) := by rw [World.cell?_alloc_mark]; rfl
  have x1 : (w.alloc (.cells #[.slice a1 n1 c1, .slice a2 n2 c2] 32)).cell? ⟨w.heap.size, 1, none⟩ = some (.slice a2 n2 c2) := by rw [World.cell?_alloc_mark]; rfl
  cases hg : gOk g with
  | false =>
    go_enter Tryz.func8, Tryz.ntmps8
    go_wp2_with (go_at_call 27; refine (fault_bad _ _ _ _ hg r1).mono ?_; rintro e w1 ⟨rfl, hb1⟩)
    go_ret
    exact ⟨[], ⟨(fun _ => rfl), (fun h => by rw [hg] at h; cases h)⟩, PtsR.nil _ _ _ _ ((hba.trans (hb1.mono hba.size)).alloc (Nat.le_trans hba.size hb1.size) _)⟩
  | true =>
    have hlen := (gOk_parts hg).1
    have hlen' : (n1 : Int) ≤ 200 := by have := HN1.out; omega
    obtain ⟨CN, hCN, hCNb, hmkN⟩ := make_one (T := 39) (E := 2) (z := .int .i64 0) (by' := 8) Tryz.underlying39 (by kernel_rfl) rfl (by decide) n1 (by omega)
    obtain ⟨CG, hCG, hCGb, hmkG⟩ := make_one (T := 50) (E := 4) (z := .bool false) (by' := 1) Tryz.underlying50 (by kernel_rfl) rfl (by decide) n1 (by omega)
    go_enter Tryz.func8, Tryz.ntmps8
    go_upto_region 4 with (first
      | (go_at_call 27; refine (fault_good _ _ _ _ hg r1).mono ?_; rintro e w1 ⟨rfl, hb1⟩; have r2 := r1.below hb1; have y0 := cell_kept (fun hl => hb1.block _ hl) x0; have y1 := cell_kept (fun hl => hb1.block _ hl) x1)
      | (go_at_call 28; refine (linked_any _ S _ g r2 hg).mono ?_; rintro e w2 ⟨vL, gs, rfl, hmx, hb2⟩; obtain ⟨l1, l2, l3, rfl⟩ := hmx.shape))
    have hb3 := (Below.refl _ w2).alloc (Nat.le_refl _) (.cells #[.slice l1 l2 l3] 48)
    have hb23 := hb2.trans (hb3.mono hb2.size)
    have r3 := r2.below hb23
    have z0 := cell_kept (fun hl => hb23.block _ hl) y0
    have z1 := cell_kept (fun hl => hb23.block _ hl) y1
    have zl : (w2.alloc (.cells #[.slice l1 l2 l3] 48)).cell? ⟨w2.heap.size, 0, none⟩ = some (.slice l1 l2 l3) := by rw [World.cell?_alloc_mark]; rfl
    have hmx3 := hmx.below hb3
    have hbA : Below w.heap.size w (w2.alloc (.cells #[.slice l1 l2 l3] 48)) := (hba.trans (hb1.mono hba.size)).trans (hb23.mono (Nat.le_trans hba.size hb1.size))
    have h3 := h1.below ENd.kept hbA
    clear hba hb1 hb2 hb3 hb23 r1 r2 x0 x1 y0 y1 hmx h0 h1
    obtain ⟨bL, hbL⟩ : ∃ b, w2.heap.size = b := ⟨_, rfl⟩
    rw [hbL] at zl
    generalize w2.alloc (.cells #[.slice l1 l2 l3] 48) = W3 at r3 z0 z1 zl hmx3 hbA h3 ⊢
    simp only [hbL]
    clear hbL
    have hzb := lt_of_cell z0
    have hzl := lt_of_cell zl
    have hzz := hbA.size
    rw [HN1.out] at hmx3
    have hK0 : Wk W3 (W3.alloc (.cells CN 2)) n1 (fun _ => 0) := ⟨(Below.refl _ W3).alloc (Nat.le_refl _) _, fun j hj => by rw [World.cell?_alloc_mark]; exact hCNb j hj, fun o => by rw [World.frozen?_alloc_mark]; simp⟩
    have hs0 : W3.heap.size < (W3.alloc (.cells CN 2)).heap.size := by simp
    go_upto_region 6 with fail
    generalize W3.alloc (.cells CN 2) = W4 at hK0 hs0 ⊢
    go_loopw [5, 6, 7] (fun i _ _ wr => ∃ (k : Nat) (nums : Nat → Int), k ≤ n1 ∧ i = .int .i64 k ∧ Wk W3 wr n1 nums ∧ W3.heap.size < wr.heap.size ∧ ∀ j, j < k → Least g j (nums j)) (fun i _ _ wr => n1 - (intOf i).toNat)
    case atStart => exact ⟨0, _, by omega, rfl, hK0, hs0, fun j hj => by omega⟩
    case round =>
      clear hK0 hs0
      obtain ⟨k, nums, hk, rfl, K, hsz, hnums⟩ := hrel
      have q0 := cell_kept (fun hl => K.below.block _ hl) z0
      have ql := cell_kept (fun hl => K.below.block _ hl) zl
      by_cases hlt : k < n1
      · have f0 : decide ((k : Int) < n1) = true := decide_eq_true (by omega)
        have f0' : decide (k < n1) = true := decide_eq_true hlt
        have hlt2 : (k : Int) < n1 := by omega
        have qla : ∀ o, (wr.alloc o).cell? ⟨bL, 0, none⟩ = some (.slice l1 l2 l3) := fun o => cell_kept (fun hl => ((Below.refl _ wr).alloc (Nat.le_refl _) o).block _ hl) ql
        have hbG : Below wr.heap.size wr (wr.drew.alloc (.cells CG 4)) := (below_drew wr).alloc (Nat.le_refl _) _
        have hcl : Calls Tryz.prog 29 #[.agg #[.slice l1 l2 l3], .int .i64 k, .slice (some ⟨wr.heap.size, 0, none⟩) n1 n1] (wr.drew.alloc (.cells CG 4)) (ReachR n1 (lnks g.nodes g.edges) k (wr.drew.alloc (.cells CG 4))) :=
          reach_any (wr.drew.alloc (.cells CG 4)) w1.heap.size n1 (by omega) (.slice l1 l2 l3) gs (lnks g.nodes g.edges) (hmx3.below (K.below.trans (hbG.mono K.below.size))) k hlt wr.heap.size n1 (fun j hj => by
            show (wr.alloc (.cells CG 4)).cell? ⟨wr.heap.size, j, none⟩ = _
            rw [World.cell?_alloc_mark]; exact hCGb j hj)
        go_upto_region 8 with fail
        go_region_law (first | (go_simp; go_at_call 29; refine hcl.mono ?_; rintro e w5 ⟨gS, s, rfl, hgS, hsee, hrch, hb5⟩))
        all_goals
          have K5 := K.step hsz (hbG.trans (hb5.mono hbG.size))
          have hs5 : W3.heap.size < w5.heap.size := Nat.lt_of_lt_of_le hsz (Nat.le_trans hbG.size hb5.size)
          have hgS2 : W3.heap.size < gS := Nat.lt_of_lt_of_le (Nat.lt_of_lt_of_le hsz hbG.size) hgS
          clear q0 ql qla hbG hcl hb5 hgS K hsz
          go_wp2_with fail
          go_loopw [7] (fun kk wr => ∃ (m : Nat) (x : Int), m ≤ n1 ∧ kk = .int .i64 ((m : Int) - 1) ∧ Wk W3 wr n1 (fun j => if j = k then x else nums j) ∧ W3.heap.size < wr.heap.size ∧ (∀ j, j < n1 → wr.cell? ⟨gS, j, none⟩ = some (.bool (s j))) ∧ Low g.nodes s m x) (fun kk wr => (intOf kk + 1).toNat)
          case atStart =>
            refine ⟨n1, nums k, Nat.le_refl _, by go_num, ?_, hs5, hsee, HN1.out ▸ Low.none _ _ _⟩
            rw [show (fun j => if j = k then nums k else nums j) = nums by funext j; split; rename_i e; rw [e]; rfl]
            exact K5
          case round =>
            clear K5 hs5 hsee
            obtain ⟨m, x, hm, rfl, K, hsz, hsee, hlow⟩ := hrel
            cases m with
            | zero =>
              have hL := hlow.least (i := k) (by rw [HN1.out]; exact hlt) (by rw [HN1.out]; exact hrch)
              go_wp2_with fail
              go_round
              case rel =>
                refine ⟨k + 1, _, by omega, by go_num, K, hsz, fun j hj => ?_⟩
                by_cases e : j = k
                · subst e; simpa using hL
                · simpa [e] using hnums j (by omega)
              case measure => simp [intOf]; omega
            | succ m =>
              have e0 : ((m + 1 : Nat) : Int) - 1 = m := by omega
              have f1 : decide ((0 : Int) ≤ m) = true := decide_eq_true (by omega)
              have hm' : (m : Int) < n1 := by omega
              have hmn : m < n1 := hm
              have hmG : m < g.nodes.length := by rw [HN1.out]; exact hmn
              have z2 := hsee m hmn
              have q0 := cell_kept (fun hl => K.below.block _ hl) z0
              have hr := h3.below ENd.kept K.below
              obtain ⟨b, o, p1, d1, p2, d2, rfl, hS0, hc, hcl, hcf, _, _⟩ := RNd.at hr (by rw [HN1.out]; exact hmn)
              clear hcl hcf
              rw [e0]
              cases hsm : s m with
              | false =>
                rw [hsm] at z2
                have hN := hlow.skip hsm
                go_wp2_with fail
                go_round
                case rel => exact ⟨m, x, by omega, by go_num, K, hsz, hsee, hN⟩
                case measure => first | (simp [intOf]; done) | (simp [intOf]; omega)
              | true =>
                rw [hsm] at z2
                have hN := Low.take (ids := g.nodes) (s := s) (m := m) (by rw [HN1.out]; exact hmn) hsm
                have z5 := K.num k hlt
                have z6 := K.fro k
                have hK := K.put hlt g.nodes[m].id
                obtain ⟨xi, hxi⟩ : ∃ xi, g.nodes[m].id = xi := ⟨_, rfl⟩
                rw [hxi] at hc hN hK
                clear hxi
                go_wp2_with fail
                go_round
                case rel =>
                  refine ⟨m, xi, by omega, by go_num, ?_, by simp [World.setCell]; exact hsz, fun j hj => (World.cell?_setCell_other _ _ _ _ (fun q => by injection q with q1 q2; omega)).trans (hsee j hj), hN⟩
                  rw [show (fun j => if j = k then xi else nums j) = (fun j => if j = k then xi else if j = k then x else nums j) by funext j; split <;> rfl]
                  exact hK
                case measure => first | (simp [intOf]; done) | (simp [intOf]; omega)
      · have hk3 : k = n1 := by omega
        subst hk3
        have f0 : decide ((k : Int) < k) = false := decide_eq_false (by omega)
        obtain ⟨f, hf, hfn⟩ := least_part (gw_of hg) nums (by rw [HN1.out]; exact hnums)
        have q1 := cell_kept (fun hl => K.below.block _ hl) z1
        have rr := r3.below K.below
        have hcl : Calls Tryz.prog 30 #[.agg #[.slice a1 k c1, .slice a2 n2 c2], .slice (some ⟨W3.heap.size, 0, none⟩) k k] wr (PtsR (ptsOf g.nodes f) wr) := by
          have := sparts_any wr S _ g rr hlen W3.heap.size k f (fun j hj => by rw [hfn j hj]; exact K.num j (by rw [← HN1.out]; exact hj))
          rwa [HN1.out] at this
        go_wp2_with (go_at_call 30; refine hcl.mono ?_; rintro e w6 ⟨vv, rfl, p1, p2, hb6⟩)
        go_ret
        have hbW := hbA.trans (K.below.mono hbA.size)
        exact ⟨_, ⟨(fun h => by rw [hg] at h; cases h), (fun _ => ⟨f, hf, rfl⟩)⟩, vv, rfl, p1.mono EPt.mono (fun b hb => Nat.le_trans hbW.size hb), Own.low p2 hbW.size, hbW.trans (hb6.mono hbW.size)⟩
end Go.Proofs.YtaoccbhdlkflfaaGreatDoor
/- The law of the weak parts: it answers true, and nothing old turns. Condition: the library's variables are as they were laid. -/
set_option linter.unusedVariables false
set_option linter.unusedSimpArgs false
namespace Go.Proofs.YtaoccbhdlkflfaaGreatDoor
open Go.RowKit Go.Sort

/-! ### what lies, lies below the world's end -/
def Elem.In {α : Type} (E : Elem α) : Prop := ∀ w S f x, E w S f x → E w (fun b => S b ∧ b < w.heap.size) f x
theorem Row.within {α : Type} {sz : Nat} (hs : 0 < sz) {E : Elem α} (hE : E.In) {w : World} {S : Nat → Prop} {v : Value} {xs : List α} (h : Row sz E w S v xs) : Row sz E w (fun b => S b ∧ b < w.heap.size) v xs := by
  obtain ⟨a, c, hv, hl, h⟩ := h
  refine ⟨a, c, hv, hl, fun k x hx => ?_⟩
  obtain ⟨b, o, f, ha, hS, hc, he⟩ := h k x hx
  exact ⟨b, o, f, ha, ⟨hS, lt_of_cell (hc 0 hs)⟩, hc, hE w S f x he⟩
theorem EStr.in : EStr.In := fun _ _ _ _ h => h
theorem EFld.in : EFld.In := fun _ _ _ _ h => h
theorem EPt.in : EPt.In := fun _ _ _ _ h => h
theorem ENd.in : ENd.In := fun _ _ _ _ h => ⟨h.1, h.2.1.within (by decide) EStr.in, h.2.2.within (by decide) EFld.in⟩
theorem EEd.in : EEd.In := fun _ _ _ _ h => ⟨h.1, h.2.1, h.2.2.1, h.2.2.2.1, h.2.2.2.2.1.within (by decide) EFld.in, h.2.2.2.2.2⟩
theorem RGr.within {w : World} {S : Nat → Prop} {v : Value} {g : Gr} (h : RGr w S v g) : RGr w (fun b => S b ∧ b < w.heap.size) v g := by
  obtain ⟨v1, v2, hv, h1, h2⟩ := h
  exact ⟨v1, v2, hv, h1.within (by decide) ENd.in, h2.within (by decide) EEd.in⟩
theorem RGr.shape {w : World} {S : Nat → Prop} {v : Value} {g : Gr} (h : RGr w S v g) : ∃ a1 c1 a2 c2, v = .agg #[.slice a1 g.nodes.length c1, .slice a2 g.edges.length c2] := by
  obtain ⟨v1, v2, rfl, h1, h2⟩ := h
  obtain ⟨a1, c1, rfl⟩ := h1.shape
  obtain ⟨a2, c2, rfl⟩ := h2.shape
  exact ⟨a1, c1, a2, c2, rfl⟩

/-! ### what a small graph keeps to -/
theorem sum_le_of_mem : ∀ {l : List Nat} {x : Nat}, x ∈ l → x ≤ l.sum
  | [], x, h => by simp at h
  | y :: l, x, h => by
    rw [List.sum_cons]
    rcases List.mem_cons.1 h with e | e
    · subst e; omega
    · have := sum_le_of_mem e; omega
theorem tot_len {α : Type} (f : α → Nat) (l : List α) : l.length ≤ tot (l.map f) := by unfold tot; rw [List.length_map]; omega
theorem tot_mem {α : Type} (f : α → Nat) {l : List α} {x : α} (h : x ∈ l) : f x ≤ tot (l.map f) := by
  have := sum_le_of_mem (List.mem_map.2 ⟨x, h, rfl⟩ : f x ∈ l.map f)
  unfold tot
  omega
theorem sum_le_tot {α : Type} (f c : α → Nat) (k : Nat) (hk : ∀ x, c x ≤ k + k * f x) : ∀ l : List α, (l.map c).sum ≤ k * tot (l.map f)
  | [] => Nat.zero_le _
  | x :: l => by
    have h1 := sum_le_tot f c k hk l
    have h2 := hk x
    unfold tot at h1 ⊢
    rw [List.length_map] at h1 ⊢
    rw [List.map_cons, List.sum_cons, List.map_cons, List.sum_cons, List.length_cons, Nat.mul_add, Nat.mul_add, Nat.mul_add]
    rw [Nat.mul_add] at h1
    omega
theorem small_of {g : Gr} (h : bGr g ≤ 1048576) : g.nodes.length ≤ 1048576 ∧ g.edges.length ≤ 1048576 ∧ (∀ n ∈ g.nodes, n.labels.length ≤ 1048576 ∧ n.fields.length ≤ 1048576) ∧ (∀ n ∈ g.edges, n.fields.length ≤ 1048576) ∧ 1 + cGr g < 1000000000 := by
  unfold bGr bNds bEds at h
  have h1 := tot_len bNd g.nodes
  have h2 := tot_len bEd g.edges
  refine ⟨by omega, by omega, fun n hn => ?_, fun n hn => ?_, ?_⟩
  · have : tot (n.labels.map ByteArray.size) + tot (n.fields.map bFld) ≤ tot (g.nodes.map bNd) := tot_mem bNd hn
    have a := tot_len ByteArray.size n.labels
    have b := tot_len bFld n.fields
    omega
  · have : n.type.size + tot (n.fields.map bFld) ≤ tot (g.edges.map bEd) := tot_mem bEd hn
    have b := tot_len bFld n.fields
    omega
  · have a := sum_le_tot bNd cNd 4 (fun x => by
      have a := tot_len ByteArray.size x.labels
      have b := tot_len bFld x.fields
      unfold bNd bStrs bFlds cNd
      omega) g.nodes
    have b := sum_le_tot bEd cEd 4 (fun x => by
      have b := tot_len bFld x.fields
      unfold bEd bFlds cEd
      omega) g.edges
    unfold cGr
    omega
theorem WeakX.len {g : Gr} {xs : List Pt} (h : WeakX g xs) : xs.length ≤ 200 := by
  cases hg : gOk g with
  | false => rw [h.1 hg]; simp
  | true =>
    obtain ⟨f, _, rfl⟩ := h.2 hg
    unfold ptsOf
    rw [List.length_map]
    exact (gOk_parts hg).1

/-- the argument's box, and all that was there before -/
structure Ag (w W : World) (v1 v2 : Value) : Prop where
  below : Below w.heap.size w W
  x0 : W.cell? ⟨w.heap.size, 0, none⟩ = some v1
  x1 : W.cell? ⟨w.heap.size, 1, none⟩ = some v2
theorem Ag.lt {w W : World} {v1 v2 : Value} (h : Ag w W v1 v2) : w.heap.size < W.heap.size := lt_of_cell h.x0
theorem Ag.low {w W W' : World} {v1 v2 : Value} (h : Ag w W v1 v2) {B : Nat} (hB : w.heap.size < B) (hb : Below B W W') : Ag w W' v1 v2 :=
  ⟨h.below.trans (hb.mono (by omega)), cell_kept (fun _ => hb.block _ hB) h.x0, cell_kept (fun _ => hb.block _ hB) h.x1⟩
theorem Ag.step {w W W' : World} {v1 v2 : Value} (h : Ag w W v1 v2) (hb : Below W.heap.size W W') : Ag w W' v1 v2 := h.low h.lt hb
theorem Wr.low {S : Nat → Prop} {w w' : World} (h : Wr S w w') {B : Nat} (hB : B ≤ w.heap.size) (hS : ∀ b, S b → B ≤ b) : Below B w w' :=
  ⟨h.os, h.tape, h.output, h.size, fun b hb => h.off b (by omega) (fun q => by have := hS b q; omega)⟩
set_option maxHeartbeats 1000000 in
set_option maxRecDepth 100000 in
theorem markPartS_none (w : World) (a : Option Addr) (c : Nat) : Calls Tryz.prog 14 #[.slice a 0 c, .int .i64 1] w (fun e w' => e = .returned (.int .i64 1) ∧ Below w.heap.size w w') := by
  go_enter Tryz.func14, Tryz.ntmps14
  go_wp2
  go_loopw [1, 5] (fun q i wr => i = .int .i64 0 ∧ q = .int .i64 1 ∧ Below w.heap.size w wr) (fun _ i _ => 0)
  case atStart => exact ⟨rfl, rfl, Below.refl _ _⟩
  case round =>
    obtain ⟨rfl, rfl, hb⟩ := hrel
    go_wp2
    go_ret
    exact ⟨rfl, hb⟩
theorem markPartS_own (w : World) (B : Nat) (v : Value) (n : Nat) (h : Own 2 w B v n) (hl : n ≤ 1000000) (hB : B ≤ w.heap.size) : Calls Tryz.prog 14 #[v, .int .i64 1] w (fun e w' => e = .returned (.int .i64 ((1 + 2 * n : Nat) : Int)) ∧ Nums 2 w' v n ∧ Below B w w') := by
  have h0 := h
  obtain ⟨a, c, rfl, q | ⟨g, rfl, hg, _⟩⟩ := h
  · subst q
    exact (markPartS_none w a c).mono fun e w' h => ⟨h.1, ⟨a, c, rfl, .inl rfl⟩, h.2.mono hB⟩
  · exact (markPartS_any w B _ n h0 hl).mono fun e w' h => ⟨h.1, h.2.1, h.2.2.below (fun b hb => by simp [Value.ownBlock] at hb; omega) hB⟩
/-- the law answers true; nothing old has turned -/
def SaysTrue (w : World) (e : Ending) (w' : World) : Prop := e = .returned (.bool true) ∧ Below w.heap.size w w'

set_option maxHeartbeats 2000000 in
set_option maxRecDepth 100000 in
theorem law_any (w : World) (hE : Env w) (S : Nat → Prop) (v : Value) (g : Gr) (h : RGr w S v g) : Calls Tryz.prog 3 #[v] w (SaysTrue w) := by
  obtain ⟨a1, c1, a2, c2, hv⟩ := h.shape
  obtain ⟨n1, hn1⟩ : ∃ n, g.nodes.length = n := ⟨_, rfl⟩
  obtain ⟨n2, hn2⟩ : ∃ n, g.edges.length = n := ⟨_, rfl⟩
  rw [hn1, hn2] at hv
  have HN1 := Lib.hid hn1
  have HN2 := Lib.hid hn2
  clear hn1 hn2
  subst hv
  have hb0 := (Below.refl _ w).alloc (Nat.le_refl _) (.cells #[.slice a1 n1 c1, .slice a2 n2 c2] 25)
  have x0 : (w.alloc (.cells #[.slice a1 n1 c1, .slice a2 n2 c2] 25)).cell? ⟨w.heap.size, 0, none⟩ = some (.slice a1 n1 c1) := by rw [World.cell?_alloc_mark]; rfl
  have x1 : (w.alloc (.cells #[.slice a1 n1 c1, .slice a2 n2 c2] 25)).cell? ⟨w.heap.size, 1, none⟩ = some (.slice a2 n2 c2) := by rw [World.cell?_alloc_mark]; rfl
  have r0 := h.below hb0
  go_enter Tryz.func3, Tryz.ntmps3
  go_upto_region 3 with (go_at_call 7; refine (szGraph_any _ S _ g 1048576 r0 (by decide) (by decide)).mono ?_; rintro e w1 ⟨rfl, hb1⟩)
  by_cases hsm : bGr g ≤ 1048576
  case neg =>
    rw [show lef 1048576 (bGr g) = -1 by unfold lef; rw [if_neg (by omega)]]
    go_wp2_with fail
    go_ret
    exact ⟨rfl, hb0.trans (hb1.mono hb0.size)⟩
  obtain ⟨L, hL, hL0⟩ : ∃ L, lef 1048576 (bGr g) = L ∧ 0 ≤ L := ⟨_, rfl, by unfold lef; rw [if_pos (by omega)]; omega⟩
  rw [hL]
  have f0 : decide (L < 0) = false := decide_eq_false (by omega)
  obtain ⟨l1, l2, lim1, lim2, hmk⟩ := small_of hsm
  clear hL hsm
  have A1 : Ag w w1 (.slice a1 n1 c1) (.slice a2 n2 c2) := (Ag.mk hb0 x0 x1).step hb1
  clear hb0 x0 x1 r0 hb1
  have q0 := A1.x0
  have q1 := A1.x1
  have r1 := h.below A1.below
  go_upto_region 6 with (first
    | (go_at_call 9; refine (toGraph_any _ S _ g r1 l1 l2 lim1 lim2).mono ?_; rintro e w2 ⟨gu, rfl, r2, hb2, hz2⟩)
    | (go_at_call 8; refine (sweak_any _ _ _ g r2).mono ?_; rintro e w3 ⟨xs, hX, vS, rfl, p3, o3, hb3⟩))
  have A3 := (A1.step hb2).step hb3
  clear q0 q1 r1 r2 hb2 hz2 hb3 o3 A1
  have p3 := p3.mono EPt.mono (S' := fun _ => True) (fun _ _ => trivial)
  have q0 := A3.x0
  have q1 := A3.x1
  have r3 := h.below A3.below
  go_upto_region 7 with (go_at_call 9; refine (toGraph_any _ S _ g r3 l1 l2 lim1 lim2).mono ?_; rintro e w4 ⟨gv, rfl, r4, hb4, hz4⟩; obtain ⟨ga, gc, gb, gd, rfl⟩ := r4.shape)
  have hb5 := (Below.refl _ w4).alloc (Nat.le_refl _) (.cells #[.slice ga g.nodes.length gc, .slice gb g.edges.length gd] 32)
  have y0 : (w4.alloc (.cells #[.slice ga g.nodes.length gc, .slice gb g.edges.length gd] 32)).cell? ⟨w4.heap.size, 0, none⟩ = some (.slice ga g.nodes.length gc) := by rw [World.cell?_alloc_mark]; rfl
  have y1 : (w4.alloc (.cells #[.slice ga g.nodes.length gc, .slice gb g.edges.length gd] 32)).cell? ⟨w4.heap.size, 1, none⟩ = some (.slice gb g.edges.length gd) := by rw [World.cell?_alloc_mark]; rfl
  have r5 := r4.within.below hb5
  have h34 : w3.heap.size ≤ w4.heap.size := hb4.size
  have F5 : FreeS (fun b => w3.heap.size ≤ b ∧ b < w4.heap.size) (w4.alloc (.cells #[.slice ga g.nodes.length gc, .slice gb g.edges.length gd] 32)) := fun b hS => ⟨Nat.lt_trans hS.2 (by simp), fun o => (World.frozen?_of_block (a := ⟨b, o, none⟩) (hb5.block b hS.2)).trans (hz4 b o hS.1)⟩
  have A5 := (A3.step hb4).step hb5
  have hb35 := hb4.trans (hb5.mono hb4.size)
  have hS5a : ∀ b, (fun b => w3.heap.size ≤ b ∧ b < w4.heap.size) b → w3.heap.size ≤ b := fun b hb => hb.1
  have hS5b : ∀ b, (fun b => w3.heap.size ≤ b ∧ b < w4.heap.size) b → b < w4.heap.size := fun b hb => hb.2
  have h45 : w4.heap.size < (w4.alloc (.cells #[.slice ga g.nodes.length gc, .slice gb g.edges.length gd] 32)).heap.size := by simp
  generalize (fun b => w3.heap.size ≤ b ∧ b < w4.heap.size) = S5 at r5 F5 hS5a hS5b
  generalize w4.alloc (.cells #[.slice ga g.nodes.length gc, .slice gb g.edges.length gd] 32) = w5 at hb5 y0 y1 r5 F5 A5 hb35 h45 ⊢
  clear r4 hb4 hz4 hb5 q0 q1 r3
  obtain ⟨b4, hb4⟩ : ∃ b, w4.heap.size = b := ⟨_, rfl⟩
  rw [hb4] at y0 y1 h34 hS5b h45
  simp only [hb4]
  clear hb4
  have E5 := hE.below A5.below
  have h3A := A3.lt
  go_upto_region 8 with (go_at_call 10; refine (weak_any _ E5 S5 _ g r5).mono ?_; rintro e w6 ⟨ys, hY, vI, rfl, p6, o6, hb6⟩)
  have e := hY.same hX
  subst e
  clear hY
  have hlen := hX.len
  have A6 := A5.step hb6
  have y0 := cell_kept (fun hl => hb6.block _ hl) y0
  have y1 := cell_kept (fun hl => hb6.block _ hl) y1
  have r6 := r5.below hb6
  have F6 := F5.on (Wr.below hb6)
  have hb36 := hb35.trans (hb6.mono hb35.size)
  have p36 := p3.below EPt.kept hb36
  have h56 := hb6.size
  go_upto_region 10 with (go_at_call 11; refine (eqPartS_any _ _ _ _ _ ys p6 p36).mono ?_; rintro e w7 ⟨rfl, hb7⟩)
  clear r5 F5 A5 E5 hb35 hb6 p36
  have y0 := cell_kept (fun hl => hb7.block _ hl) y0
  have y1 := cell_kept (fun hl => hb7.block _ hl) y1
  have r7 := r6.below hb7
  have F7 := F6.on (Wr.below hb7)
  have A7 := A6.step hb7
  have p7 := p6.below EPt.kept hb7
  have o7 := o6.kept hb7.size (fun b _ hl => hb7.block b hl)
  have hb37 := hb36.trans (hb7.mono hb36.size)
  have h57 := Nat.le_trans h56 hb7.size
  clear r6 F6 A6 p6 o6 hb36 hb7 h56
  have q0 := A7.x0
  have q1 := A7.x1
  have A7d := A7.step (below_drew w7)
  have r7d := h.below A7d.below
  have rg7d := r7.below (below_drew w7)
  go_region_law (first
    | (go_simp; go_at_call 9; refine (toGraph_any w7.drew S _ g r7d l1 l2 lim1 lim2).mono ?_; rintro e w8a ⟨gw, rfl, r8, hb8, hz8⟩; have y2 := cell_kept (fun hl => hb8.block _ hl) y0; have y3 := cell_kept (fun hl => hb8.block _ hl) y1; have rg8 := rg7d.below hb8)
    | (go_simp; go_at_call 12; refine (eqGraph_any _ _ _ _ _ g rg8 r8).mono ?_; rintro e w8 ⟨rfl, hb8b⟩))
  all_goals
    have hb78 := (below_drew w7).trans ((hb8.mono (below_drew w7).size).trans (hb8b.mono (Nat.le_trans (below_drew w7).size hb8.size)))
    have y0 := cell_kept (fun hl => hb78.block _ hl) y0
    have y1 := cell_kept (fun hl => hb78.block _ hl) y1
    have r8' := r7.below hb78
    have F8 := F7.on (Wr.below hb78)
    have A8 := A7.step hb78
    have p8 := p7.below EPt.kept hb78
    have o8 := o7.kept hb78.size (fun b _ hl => hb78.block b hl)
    have hb38 := hb37.trans (hb78.mono hb37.size)
    have h58 := Nat.le_trans h57 hb78.size
    obtain ⟨mk, hmke⟩ : ∃ m, 1 + cGr g = m := ⟨_, rfl⟩
    have cm := markGraph_shape w8 S5 _ g r8' F8 hmk
    rw [hmke] at cm
    have f1 : decide ((mk : Int) < 0) = false := decide_eq_false (by omega)
    clear hb8 hb8b hz8 r8 rg8 y2 y3 hb78 r7 F7 A7 p7 o7 hb37 h57 q0 q1 A7d r7d rg7d r8' F8 hmke hmk
    go_upto_region 14 with (go_at_call 13; refine cm.mono ?_; rintro e w9 ⟨rfl, hW⟩)
    have hz5 : ∀ b, w5.heap.size ≤ b → b < w8.heap.size → w9.heap[b]? = w8.heap[b]? := fun b hb hl => hW.off b hl (fun q => by have := hS5b b q; omega)
    have hb89 : Below w3.heap.size w8 w9 := hW.low hb38.size hS5a
    have A9 := A8.low h3A hb89
    have p9 := p8.kept EPt.kept hz5
    have o9 := o8.kept hW.size hz5
    have hb39 := hb38.trans hb89
    have p39 := p3.below EPt.kept hb39
    have h59 := Nat.le_trans h58 hW.size
    clear y0 y1 A8 p8 o8 hb38 h58 cm hW hz5 hb89
    go_upto_region 16 with (go_at_call 11; refine (eqPartS_any _ _ _ _ _ ys p9 p39).mono ?_; rintro e w10 ⟨rfl, hb10⟩)
    have A10 := A9.step hb10
    have o10 := o9.kept hb10.size (fun b _ hl => hb10.block b hl)
    have hb310 := hb39.trans (hb10.mono hb39.size)
    have h510 := Nat.le_trans h59 hb10.size
    obtain ⟨mn, hmn⟩ : ∃ m, 1 + 2 * ys.length = m := ⟨_, rfl⟩
    have cm := markPartS_own w10 w5.heap.size vI ys.length o10 (by omega) h510
    have ch := fun u hu => heldPartS_any u vI ys.length hu (by omega)
    rw [hmn] at cm ch
    have f2 : decide ((mn : Int) < 0) = false := decide_eq_false (by omega)
    have f3 : ((mn : Int) != mn) = false := by simp
    clear A9 p9 o9 hb39 p39 h59 hb10 o10 hmn
    go_upto_region 18 with (go_at_call 14; refine cm.mono ?_; rintro e w11 ⟨rfl, N11, hb11⟩)
    have A11 := A10.low (by omega) hb11
    have hb311 := hb310.trans (hb11.mono (by omega))
    clear A10 hb310 cm hb11
    go_upto_region 24 with (go_at_call 15; refine (ch _ N11).mono ?_; rintro e w12 ⟨rfl, rfl⟩)
    have q0 := A11.x0
    have q1 := A11.x1
    have r11 := h.below A11.below
    go_upto_region 25 with (first
      | (go_at_call 9; refine (toGraph_any _ S _ g r11 l1 l2 lim1 lim2).mono ?_; rintro e w13 ⟨gx, rfl, r13, hb13, hz13⟩; have A13 := A11.step hb13; have E13 := hE.below A13.below)
      | (go_at_call 10; refine (weak_any _ E13 _ _ g r13).mono ?_; rintro e w14 ⟨zs, hZ, vJ, rfl, p14, o14, hb14⟩))
    have e := hZ.same hX
    subst e
    have A14 := A13.step hb14
    have hb114 := hb13.trans (hb14.mono hb13.size)
    have hb314 := hb311.trans (hb114.mono hb311.size)
    have p314 := p3.below EPt.kept hb314
    have N14 := N11.kept (fun b hl => hb114.block b hl)
    clear q0 q1 r11 A13 E13 r13 hb13 hz13 hb14 o14 A11 N11 hb311
    go_wp2_with (first
      | (go_at_call 11; refine (eqPartS_any _ _ _ _ _ _ p14 p314).mono ?_; rintro e w15 ⟨rfl, hb15⟩; have A15 := A14.step hb15; have N15 := N14.kept (fun b hl => hb15.block b hl))
      | (go_at_call 15; refine (ch _ N15).mono ?_; rintro e w16 ⟨rfl, rfl⟩))
    go_ret
    exact ⟨rfl, A15.below⟩
end Go.Proofs.YtaoccbhdlkflfaaGreatDoor
