/- Texts of one proof, joined in their order: each bears its own word of what it holds and on what condition. -/
import Derived.Test.YtllhimeffkefiaaGreatDoorMK
set_option linter.unusedVariables false
set_option linter.unusedSimpArgs false
/- The specification's links of a graph, one way. Condition: a right graph. -/
set_option linter.unusedVariables false
set_option linter.unusedSimpArgs false
namespace Go.Proofs.YtllhimeffkefiaaGreatDoor
open Go.RowKit Go.Sort

/-- is there an edge from the node at place i to the one at j? -/
def lnkd1 (ns : List Nd) (e : Ed) (i j : Nat) : Bool := decide (posN ns e.src 0 = i) && decide (posN ns e.dst 0 = j)
def lnkd (ns : List Nd) (es : List Ed) (i j : Nat) : Bool := es.any fun e => lnkd1 ns e i j
theorem lnkd_snoc (ns : List Nd) (es : List Ed) {k : Nat} (hk : k < es.length) (i j : Nat) : lnkd ns (es.take (k + 1)) i j = (lnkd ns (es.take k) i j || lnkd1 ns es[k] i j) := by
  unfold lnkd
  rw [List.take_succ_eq_append_getElem hk, List.any_append]
  simp
def LinkD (ns : List Nd) (es : List Ed) (w : World) (e : Ending) (w' : World) : Prop := ∃ v gs, e = .returned (.agg #[v]) ∧ Mx w.heap.size w' v ns.length ns.length gs (lnkd ns es) ∧ Below w.heap.size w w'
theorem updM_lnkd {ns : List Nd} {es : List Ed} {k p q : Nat} (hk : k < es.length) (hp : posN ns es[k].src 0 = p) (hq : posN ns es[k].dst 0 = q) : updM (lnkd ns (es.take k)) p q = lnkd ns (es.take (k + 1)) := by
  funext i j
  rw [lnkd_snoc _ _ hk]
  unfold updM lnkd1
  rw [hp, hq]
  by_cases h2 : i = p ∧ j = q
  · obtain ⟨rfl, rfl⟩ := h2
    simp
  · rw [if_neg h2]
    have e1 : (decide ((p : Int) = i) && decide ((q : Int) = j)) = false := by
      rw [Bool.and_eq_false_iff, decide_eq_false_iff_not, decide_eq_false_iff_not]
      omega
    rw [e1]
    simp
set_option maxHeartbeats 2000000 in
set_option maxRecDepth 100000 in
theorem linkedD_gw (w : World) (S : Nat → Prop) (v : Value) (g : Gr) (h : RGr w S v g) (hok : Gw g) : Calls Tryz.prog 37 #[v, .bool false] w (LinkD g.nodes g.edges w) := by
  obtain ⟨v1, v2, rfl, h1, h2⟩ := h
  have hl1 := hok.n
  have hl2 := hok.e
  have hends := hok.ends
  clear hok
  obtain ⟨ns, es⟩ := g
  obtain ⟨a1, c1, rfl⟩ := h1.shape
  obtain ⟨a2, c2, rfl⟩ := h2.shape
  simp only at h1 h2 hl1 hl2 hends ⊢
  have hl1' : (ns.length : Int) ≤ 200 := by omega
  have hl2' : (es.length : Int) ≤ 400 := by omega
  obtain ⟨C, hC, hCb, hmk⟩ := make_one (T := 68) (E := 4) (z := .bool false) (by' := 1) Tryz.underlying68 (by kernel_rfl) rfl (by decide) ns.length (by omega)
  obtain ⟨i0, hi0, hz0, hz1, hz2⟩ := info_parts (show (Tryz.prog.info? 68).map (fun i => (i.zero, i.size, i.bytes)) = some (some (.slice none 0 0), 1, 24) by kernel_rfl)
  go_enter Tryz.func37, Tryz.ntmps37
  go_wp2
  have hL : Lk w (((w.alloc (.cells #[.slice a1 ns.length c1, .slice a2 es.length c2] 36)).alloc (.cells #[.slice none 0 0] 66)).alloc (.cells #[.slice none 0 0] 66)) (.slice a1 ns.length c1) (.slice a2 es.length c2) (.slice none 0 0) 0 ns.length (fun _ => 0) (fun _ _ => false) := by
    have n1 : (w.alloc (.cells #[.slice a1 ns.length c1, .slice a2 es.length c2] 36)).heap.size = w.heap.size + 1 := by simp
    have n2 : ((w.alloc (.cells #[.slice a1 ns.length c1, .slice a2 es.length c2] 36)).alloc (.cells #[.slice none 0 0] 66)).heap.size = w.heap.size + 1 + 1 := by simp
    have b0 := (Below.refl _ w).alloc (Nat.le_refl _) (.cells #[.slice a1 ns.length c1, .slice a2 es.length c2] 36)
    have b1 := (Below.refl _ (w.alloc (.cells #[.slice a1 ns.length c1, .slice a2 es.length c2] 36))).alloc (Nat.le_refl _) (.cells #[.slice none 0 0] 66)
    have b2 := (Below.refl _ ((w.alloc (.cells #[.slice a1 ns.length c1, .slice a2 es.length c2] 36)).alloc (.cells #[.slice none 0 0] 66))).alloc (Nat.le_refl _) (.cells #[.slice none 0 0] 66)
    have b12 := b1.trans (b2.mono b1.size)
    refine ⟨b0.trans (b12.mono b0.size), cell_kept (fun hl => b12.block _ hl) (by rw [World.cell?_alloc_mark]; rfl), cell_kept (fun hl => b12.block _ hl) (by rw [World.cell?_alloc_mark]; rfl), ?_, ?_, ?_, ?_, Mx.nil _ _ _ _ _⟩
    · refine cell_kept (fun hl => b2.block _ hl) ?_
      rw [← n1, World.cell?_alloc_mark]; rfl
    · refine (World.frozen?_of_block (a := ⟨w.heap.size + 1, 0, none⟩) (b2.block _ (by simp))).trans ?_
      rw [← n1, World.frozen?_alloc_mark]; simp
    · rw [← n2, World.cell?_alloc_mark]; rfl
    · rw [← n2, World.frozen?_alloc_mark]; simp
  generalize ((w.alloc (.cells #[.slice a1 ns.length c1, .slice a2 es.length c2] 36)).alloc (.cells #[.slice none 0 0] 66)).alloc (.cells #[.slice none 0 0] 66) = W0 at hL ⊢
  go_loopw [6] (fun i wr => ∃ (k : Nat) (v : Value) (gs : Nat → Nat), k ≤ ns.length ∧ i = .int .i64 k ∧ Lk w wr (.slice a1 ns.length c1) (.slice a2 es.length c2) v k ns.length gs (fun _ _ => false)) (fun i wr => ns.length - (intOf i).toNat)
  case atStart => exact ⟨0, _, _, by omega, rfl, hL⟩
  case round =>
    clear hL
    obtain ⟨k, v, gs, hk, rfl, L⟩ := hrel
    have q0 := L.g0
    have q5 := L.c5
    by_cases hlt : k < ns.length
    · have f0 : decide ((k : Int) < ns.length) = true := decide_eq_true (by omega)
      have f0' : decide (k < ns.length) = true := decide_eq_true hlt
      have hz := L.hz
      have hzA : w.heap.size < wr.heap.size := by omega
      have hzB : w.heap.size + 1 + 1 < wr.heap.size := by omega
      have qf := L.f5
      have q5a : ∀ o, (wr.alloc o).cell? ⟨w.heap.size + 1 + 1, 0, none⟩ = some v := fun o => (L.step ((Below.refl _ wr).alloc (Nat.le_refl _) o)).c5
      have q5b : ∀ o o', ((wr.alloc o).alloc o').cell? ⟨w.heap.size + 1 + 1, 0, none⟩ = some v := fun o o' => ((L.step ((Below.refl _ wr).alloc (Nat.le_refl _) o)).step ((Below.refl _ _).alloc (Nat.le_refl _) o')).c5
      have q0a : ∀ o, (wr.alloc o).cell? ⟨w.heap.size, 0, none⟩ = some (.slice a1 ns.length c1) := fun o => (L.step ((Below.refl _ wr).alloc (Nat.le_refl _) o)).g0
      obtain ⟨u1, u2, u3, rfl⟩ : ∃ u1 u2 u3, v = .slice u1 u2 u3 := by
        rcases L.mx.own.2 with ⟨e, _⟩ | ⟨g, cap, cur, e, _⟩
        · exact ⟨_, _, _, e⟩
        · exact ⟨_, _, _, e⟩
      have hmW : ((wr.drew.alloc (.cells C 4)).alloc (.cells #[.slice (some ⟨wr.heap.size, 0, none⟩) ns.length ns.length] 68)).ownsRow (w.heap.size + 3) 68 1 (.slice u1 u2 u3) k ((List.range k).map (rowV gs ns.length)) := ((L.step (below_drew wr)).mx.own.alloc _).alloc _
      have hbW : Below wr.heap.size wr ((wr.drew.alloc (.cells C 4)).alloc (.cells #[.slice (some ⟨wr.heap.size, 0, none⟩) ns.length ns.length] 68)) := ((below_drew wr).alloc (Nat.le_refl _) _).alloc (by simp) _
      have hb1 : Below (wr.drew.alloc (.cells C 4)).heap.size (wr.drew.alloc (.cells C 4)) ((wr.drew.alloc (.cells C 4)).alloc (.cells #[.slice (some ⟨wr.heap.size, 0, none⟩) ns.length ns.length] 68)) := (Below.refl _ _).alloc (Nat.le_refl _) _
      have hcW : ∀ j, j < ns.length → ((wr.drew.alloc (.cells C 4)).alloc (.cells #[.slice (some ⟨wr.heap.size, 0, none⟩) ns.length ns.length] 68)).cell? ⟨wr.heap.size, j, none⟩ = some (.bool false) := fun j hj => by
        refine cell_kept (fun hl => hb1.block _ hl) ?_
        show (wr.alloc (.cells C 4)).cell? ⟨wr.heap.size, j, none⟩ = _
        rw [World.cell?_alloc_mark]
        exact hCb j hj
      have hfW : ∀ o, ((wr.drew.alloc (.cells C 4)).alloc (.cells #[.slice (some ⟨wr.heap.size, 0, none⟩) ns.length ns.length] 68)).frozen? ⟨wr.heap.size, o, none⟩ = false := fun o => by
        refine (World.frozen?_of_block (a := ⟨wr.heap.size, o, none⟩) (hb1.block _ (by simp))).trans ?_
        show (wr.alloc (.cells C 4)).frozen? ⟨wr.heap.size, o, none⟩ = _
        rw [World.frozen?_alloc_mark]
        simp
      go_upto_region 5 with fail
      go_region_law (refine step_append_lies _ (by rfl) (.tmp 19) (.tmp 24) 64 (by rfl) (w.heap.size + 3) 68 i0 (.slice none 0 0) 1 24 Tryz.underlying64 hi0 hz0 hz1 hz2 rfl (by decide) (.slice u1 u2 u3) k ((List.range k).map (rowV gs ns.length)) (by rfl) hmW ⟨_, 0, none⟩ 1 1 [.slice (some ⟨wr.heap.size, 0, none⟩) ns.length ns.length] (by rfl) rfl (World.news_of_block (new_block (by simp) _ _)) (by intro u hu; simp at hu; rcases hu with rfl; rfl) (by decide) (by unfold maxLen; omega) (by omega) (by simp <;> omega) _ rfl ?_; intro g cap w6 hown6 hgrow6 hat6 hlt6; have hgrow6 : World.grownBy _ w6 (Value.slice u1 u2 u3).ownBlock := hgrow6; obtain ⟨⟨d5, df⟩, L6⟩ := Lk.more L hbW (Nat.le_refl _) (by simp; omega) hcW hfW hown6 hgrow6 hat6)
      all_goals
        rw [show (fun i j => if i = k then false else (fun _ _ => false : Nat → Nat → Bool) i j) = (fun _ _ => false) by funext i j; simp] at L6
        go_wp2_with fail
        go_round
        case rel => exact ⟨k + 1, _, _, by omega, by go_num, L6⟩
        case measure => simp [intOf]; omega
    · have hk3 : k = ns.length := by omega
      subst hk3
      have f0 : decide ((ns.length : Int) < ns.length) = false := decide_eq_false (by omega)
      clear hk hlt
      go_wp2_with fail
      clear q0 q5
      go_loopw [7] (fun i wr => ∃ (j : Nat), j ≤ es.length ∧ i = .int .i64 j ∧ Lk w wr (.slice a1 ns.length c1) (.slice a2 es.length c2) v ns.length ns.length gs (lnkd ns (es.take j))) (fun i wr => es.length - (intOf i).toNat)
      case atStart => exact ⟨0, by omega, rfl, by rw [show lnkd ns (es.take 0) = fun _ _ => false by funext i j; simp [lnkd]]; exact L⟩
      case round =>
        clear L
        obtain ⟨j, hj, rfl, L⟩ := hrel
        have q0 := L.g0
        have q1 := L.g1
        have q5 := L.c5
        by_cases hlt : j < es.length
        · have f0 : decide ((j : Int) < es.length) = true := decide_eq_true (by omega)
          have f0' : decide (j < es.length) = true := decide_eq_true hlt
          have hlt2 : (j : Int) < es.length := by omega
          have hr := h2.below EEd.kept L.below
          have hrn := h1.below ENd.kept L.below
          obtain ⟨b, o, l2, d2, rfl, hS0, hc, hct, hcs, hcd, hcf, _, _⟩ := REd.at hr hlt
          obtain ⟨hka, hkb⟩ := hends j hlt
          obtain ⟨p, hp, hp1, hp2⟩ := posN_get ns es[j].src 0 (thr_iff.2 hka)
          obtain ⟨q, hq, hq1, hq2⟩ := posN_get ns es[j].dst 0 (thr_iff.2 hkb)
          rw [Nat.zero_add] at hp1 hq1
          have hnA : ∀ (id : Int) (u : World), RNd u S (.slice a1 ns.length c1) ns → Calls Tryz.prog 38 #[.agg #[.slice a1 ns.length c1, .slice (some ⟨b, o, none⟩) es.length c2], .int .i64 id] u (IntB (posN ns id 0) u) := fun id u r => snodeAt_any u S a1 (some ⟨b, o, none⟩) es.length c1 c2 ns id r
          go_upto_region 9 with fail
          refine region_ext (by kernel_rfl) (by kernel_rfl) ?_
          have y0 := Ext.cell L.g0
          have y1 := Ext.cell L.g1
          have y2 := Ext.cell hcs
          repeat (go_big_quiet_step ((go_at_call 38; rename_i u; exact (hnA _ u.w (hrn.below ENd.kept u.below)).mono fun e w' h => ⟨h.1, ⟨w', u.below.trans (h.2.mono u.below.size)⟩, rfl⟩)))
          refine wpQuiet_nil ?_
          intro w2 hb2
          clear y0 y1 y2
          have L2 := L.step hb2
          have hrn2 := hrn.below ENd.kept hb2
          have hcd2 := cell_kept (fun hl => hb2.block _ hl) hcd
          go_upto_region 10 with fail
          refine region_ext (by kernel_rfl) (by kernel_rfl) ?_
          have y0 := Ext.cell L2.g0
          have y1 := Ext.cell L2.g1
          have y2 := Ext.cell hcd2
          repeat (go_big_quiet_step ((go_at_call 38; rename_i u; exact (hnA _ u.w (hrn2.below ENd.kept u.below)).mono fun e w' h => ⟨h.1, ⟨w', u.below.trans (h.2.mono u.below.size)⟩, rfl⟩)))
          refine wpQuiet_nil ?_
          intro w3 hb3
          clear y0 y1 y2
          have L3 := L2.step hb3
          have hrn3 := hrn2.below ENd.kept hb3
          clear q0 q1 q5
          have HN := Lib.hid (updM_lnkd hlt hp1 hq1)
          have e1 : (p : Int) < ns.length := by omega
          have e2 : (q : Int) < ns.length := by omega
          obtain ⟨gO, cO, rfl, hrow⟩ := L3.mx.rowcell hp
          have hr1 := hrow p hp
          clear hrow
          unfold rowV at hr1
          have z1 := L3.mx.cell p hp q hq
          have z2 := L3.mx.fro p hp q
          have z5 := L3.c5
          have L4 := L3.put hp hq
          rw [HN.out] at L4
          go_wp2_with fail
          go_round
          case rel => exact ⟨j + 1, by omega, by go_num, L4⟩
          case measure => simp [intOf]; omega
        · have hj3 : j = es.length := by omega
          subst hj3
          have f0 : decide ((es.length : Int) < es.length) = false := decide_eq_false (by omega)
          have qf := L.f4
          have q4 := L.r4
          have hz := L.hz
          have hmx := L.mx
          rw [List.take_length] at hmx
          obtain ⟨u1, u2, u3, rfl⟩ : ∃ u1 u2 u3, v = .slice u1 u2 u3 := by
            rcases hmx.own.2 with ⟨e, _⟩ | ⟨g, cap, cur, e, _⟩
            · exact ⟨_, _, _, e⟩
            · exact ⟨_, _, _, e⟩
          have hm2 := hmx.set1 (a := ⟨w.heap.size + 1, 0, none⟩) (by show w.heap.size + 1 < _; omega) (.slice u1 u2 u3)
          go_wp2_with fail
          exact bodyPost_ret (v := .agg #[.slice u1 u2 u3]) (by simp [results, Tryz.results37, go_sem, q4]) rfl
            ⟨_, gs, rfl, hm2.lower (by omega), sets_below (g := w.heap.size + 1) (by omega) [.slice u1 u2 u3] 0 _ L.below⟩
theorem linkedD_any (w : World) (S : Nat → Prop) (v : Value) (g : Gr) (h : RGr w S v g) (hok : gOk g = true) : Calls Tryz.prog 37 #[v, .bool false] w (LinkD g.nodes g.edges w) := linkedD_gw w S v g h (gw_of hok)
end Go.Proofs.YtllhimeffkefiaaGreatDoor
