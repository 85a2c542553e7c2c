/- Texts of one proof, joined in their order: each bears its own word of what it holds and on what condition. -/
import Derived.Test.YtbaljljlahhkfaaGreatDoorMWf
set_option linter.unusedVariables false
set_option linter.unusedSimpArgs false
/- impl's map of what can be come to, with how far; the closure of StrongParts. Condition: a right graph. -/
set_option linter.unusedVariables false
set_option linter.unusedSimpArgs false
namespace Go.Proofs.YtbaljljlahhkfaaGreatDoor
open Go.RowKit Go.Sort

/-- visit of reachable: its map lies in block bo, the variable in block cb -/
def RInv (cb bo : Nat) : VInv := fun W V done => ∃ n D, W.ownsMap Tryz.prog 2 (plainElem Tryz.prog 2) bo n D ∧ n ≤ done.length ∧ DistM done D ∧ W.cell? ⟨cb, 0, none⟩ = some (.map (some bo)) ∧ V = fun q => q = bo ∨ q = cb
theorem rinv_lt {cb bo : Nat} : ∀ W V d, RInv cb bo W V d → ∀ q, V q → q < W.heap.size := by
  rintro W V d ⟨n, D, h1, _, _, h4, rfl⟩ q (rfl | rfl)
  · exact h1.lt
  · exact lt_of_cell h4
theorem rinv_keep {cb bo : Nat} : ∀ W W' V d, RInv cb bo W V d → (∀ q, V q → W'.heap[q]? = W.heap[q]?) → RInv cb bo W' V d := by
  rintro W W' V d ⟨n, D, h1, h2, h3, h4, rfl⟩ hk
  exact ⟨n, D, own_block h1 (hk bo (.inl rfl)), h2, h3, (World.cell?_of_block (a := ⟨cb, 0, none⟩) (hk cb (.inr rfl))).trans h4, rfl⟩
theorem dist_store {w : World} {b n : Nat} {D : DataW Unit} (ho : w.ownsMap Tryz.prog 2 (plainElem Tryz.prog 2) b n D) (hn : n < 1048576) {u : Int} (hi : I64 u) (k : Nat) (hk : k ≤ 1000000) :
    ∃ w', (Instr.mapUpdate 66 (.map (some b)) (.int .i64 u) (.int .i64 (k : Int))).run Tryz.prog w = .ok () w' ∧ w'.ownsMap Tryz.prog 2 (plainElem Tryz.prog 2) b (n + 1) (D.put (.int .i64 u) (.lit (.int .i64 (k : Int)))) ∧ w.grownBy w' (some b) :=
  ho.update kmap2 Tryz.underlying66 (Nat.lt_of_lt_of_le hn (by decide)) (key2 hi) (plainElem_int Tryz.underlying2 (show I64 (k : Int) from ⟨by omega, by omega⟩).wf)
theorem visit_reach {ids : List Int} (hids : ∀ u ∈ ids, I64 u) (cb bo : Nat) (hne : cb ≠ bo) : VisR 73 ids (RInv cb bo) cb := by
  rintro W V d u far ⟨n, D, h1, h2, h3, h4, rfl⟩ hu hfar hnew hdl
  obtain ⟨w', hr, ho, hg⟩ := dist_store h1 (by omega) (hids u hu) far (by omega)
  have hD := h3.put far hnew
  have hc := cell_kept (fun hl => hg.block cb hl (fun e => hne (Option.some.inj e))) h4
  go_enter Tryz.func73, Tryz.ntmps73
  go_wp2
  go_ret
  exact ⟨rfl, _, ⟨n + 1, _, ho, by rw [List.length_append]; simp; omega, hD, hc, rfl⟩, (Kp.of_grown hg).mono (fun q e => .inl (Option.some.inj e)), fun q hq => .inl hq⟩
/-- the map of distances -/
def RchR (g : Gr) (ag : Bool) (s : Int) (w : World) (e : Ending) (w' : World) : Prop := ∃ bo n D, e = .returned (.map (some bo)) ∧ w.heap.size ≤ bo ∧ w'.ownsMap Tryz.prog 2 (plainElem Tryz.prog 2) bo n D ∧ n ≤ 200 ∧ (∃ l : List (Lit × DataW Unit), D = .map l ∧ ∀ p ∈ l, ∃ id, p.1 = .int .i64 id) ∧
  (∀ u, Maps.has D (.int .i64 u) = true ↔ Rea (Arcd g.edges ag) s u) ∧ (∀ u k, Dst (Arcd g.edges ag) s k u → ∀ zd, D.atKey (.int .i64 u) zd = .lit (.int .i64 (k : Int))) ∧ Below w.heap.size w w'
set_option maxHeartbeats 1000000 in
set_option maxRecDepth 100000 in
theorem reachable_any (w : World) (S : Nat → Prop) (v : Value) (g : Gr) (h : RGr w S v g) (hw : Gw g) (s : Int) (hs : s ∈ idsOf g.nodes) (ag : Bool) :
    Calls Tryz.prog 42 #[v, .int .i64 s, .bool ag] w (RchR g ag s w) := by
  have h0 := h.within
  obtain ⟨v1, v2, rfl, h1, h2⟩ := h
  obtain ⟨a1, c1, rfl⟩ := h1.shape
  obtain ⟨a2, c2, rfl⟩ := h2.shape
  obtain ⟨n1, hn1⟩ : ∃ n, g.nodes.length = n := ⟨_, rfl⟩
  obtain ⟨n2, hn2⟩ : ∃ n, g.edges.length = n := ⟨_, rfl⟩
  have hlen := hw.n
  rw [hn1] at hlen
  have HIL : Hid ((idsOf g.nodes).length = n1) := Lib.hid (by unfold idsOf; rw [List.length_map, hn1])
  rw [hn1, hn2] at h0
  rw [hn1, hn2]
  clear h1 h2 hn1 hn2
  have hmm := @run_makeMap Tryz.prog
  go_enter Tryz.func42, Tryz.ntmps42
  go_upto_region 2 with fail
  have e1 : (w.alloc (.cells #[.slice a1 n1 c1, .slice a2 n2 c2] 32)).heap.size = w.heap.size + 1 := by simp
  have e2 : ((w.alloc (.cells #[.slice a1 n1 c1, .slice a2 n2 c2] 32)).alloc (.map #[] 0)).heap.size = w.heap.size + 1 + 1 := by simp
  have x0 : (((w.alloc (.cells #[.slice a1 n1 c1, .slice a2 n2 c2] 32)).alloc (.map #[] 0)).alloc (.cells #[.map (some (w.heap.size + 1))] 66)).cell? ⟨w.heap.size, 0, none⟩ = some (.slice a1 n1 c1) := cell_alloc (cell_alloc (by rw [World.cell?_alloc_mark]; rfl) _) _
  have x1 : (((w.alloc (.cells #[.slice a1 n1 c1, .slice a2 n2 c2] 32)).alloc (.map #[] 0)).alloc (.cells #[.map (some (w.heap.size + 1))] 66)).cell? ⟨w.heap.size, 1, none⟩ = some (.slice a2 n2 c2) := cell_alloc (cell_alloc (by rw [World.cell?_alloc_mark]; rfl) _) _
  have xb : (((w.alloc (.cells #[.slice a1 n1 c1, .slice a2 n2 c2] 32)).alloc (.map #[] 0)).alloc (.cells #[.map (some (w.heap.size + 1))] 66)).cell? ⟨w.heap.size + 1 + 1, 0, none⟩ = some (.map (some (w.heap.size + 1))) := by rw [← e2, World.cell?_alloc_mark]; rfl
  have hba : Below w.heap.size w (((w.alloc (.cells #[.slice a1 n1 c1, .slice a2 n2 c2] 32)).alloc (.map #[] 0)).alloc (.cells #[.map (some (w.heap.size + 1))] 66)) := (((Below.refl _ w).alloc (Nat.le_refl _) _).alloc (by simp) _).alloc (by simp <;> omega) _
  have hm0 : (((w.alloc (.cells #[.slice a1 n1 c1, .slice a2 n2 c2] 32)).alloc (.map #[] 0)).alloc (.cells #[.map (some (w.heap.size + 1))] 66)).ownsMap Tryz.prog 2 (plainElem (H := Unit) Tryz.prog 2) (w.heap.size + 1) 0 (.map []) := by
    rw [← e1]; exact (World.ownsMap_made _ _ _ _).alloc _
  have hI : RInv (w.heap.size + 1 + 1) (w.heap.size + 1) (((w.alloc (.cells #[.slice a1 n1 c1, .slice a2 n2 c2] 32)).alloc (.map #[] 0)).alloc (.cells #[.map (some (w.heap.size + 1))] 66)) _ [] := ⟨0, _, hm0, by simp, DistM.none, xb, rfl⟩
  clear e1 e2 hm0 xb
  generalize ((w.alloc (.cells #[.slice a1 n1 c1, .slice a2 n2 c2] 32)).alloc (.map #[] 0)).alloc (.cells #[.map (some (w.heap.size + 1))] 66) = W at x0 x1 hba hI ⊢
  have hlev := levels_reach W _ _ g (h0.below hba) hw s hs ag (w.heap.size + 1 + 1) _ (RInv (w.heap.size + 1 + 1) (w.heap.size + 1)) (by rintro b ⟨_, hb⟩ (rfl | rfl) <;> omega) hI rinv_lt rinv_keep (visit_reach (fun u hu => id_I64 (hw.id u hu)) _ _ (by omega))
  go_upto_region 3 with (go_at_call 60; refine hlev.mono ?_; rintro e w3 ⟨rfl, V, done, ⟨n, D, k1, k2, k3, k4, k5⟩, hd, hnd, hsub, hkp, hV⟩)
  go_wp2_with fail
  go_ret
  have hdl : done.length ≤ 200 := by
    have := nodup_le _ (idsOf g.nodes) hnd (fun x hx => by obtain ⟨p, hp, rfl⟩ := List.mem_map.1 hx; exact hsub p hp)
    rw [List.length_map, HIL.out] at this
    omega
  refine ⟨w.heap.size + 1, n, D, rfl, by omega, k1, by omega, k3.form, fun u => ?_, fun u k q => k3.val u k ((hd u k).2 q), hba.trans (hkp.below hba.size (by rintro q (rfl | rfl) <;> omega))⟩
  rw [k3.has]
  constructor
  · rintro ⟨k, q⟩; exact ((hd u k).1 q).rea
  · intro q
    obtain ⟨k, q⟩ := q.dst
    exact ⟨k, (hd u k).2 q⟩
end Go.Proofs.YtbaljljlahhkfaaGreatDoor
/- impl's StrongParts, whole. Condition: the library's variables are as they were laid. -/
set_option linter.unusedVariables false
set_option linter.unusedSimpArgs false
namespace Go.Proofs.YtbaljljlahhkfaaGreatDoor
open Go.RowKit Go.Sort

set_option maxHeartbeats 1000000 in
set_option maxRecDepth 100000 in
theorem pernode_strong (w : World) (S : Nat → Prop) (v : Value) (g : Gr) (h : RGr w S v g) (hl : g.nodes.length ≤ 200) (cb : Nat) (f : Int → Int) (hclo : ∀ u, Below w.heap.size w u → ∀ x ∈ g.nodes, Calls Tryz.prog 41 #[.int .i64 x.id, .pointer (some ⟨cb, 0, none⟩)] u (fun e w' => e = .returned (.int .i64 (f x.id)) ∧ Below u.heap.size u w')) :
    Calls Tryz.prog 40 #[v, .func (.func 41) #[] #[.pointer (some ⟨cb, 0, none⟩)]] w (PtsR (ptsOf g.nodes f) w) := by
  obtain ⟨v1, v2, rfl, h1, h2⟩ := h
  obtain ⟨ns, es⟩ := g
  obtain ⟨a1, c1, rfl⟩ := h1.shape
  obtain ⟨a2, c2, rfl⟩ := h2.shape
  simp only at h1 h2 hl hclo ⊢
  have hl1' : (ns.length : Int) ≤ 200 := by omega
  have hba := (Below.refl _ w).alloc (Nat.le_refl _) (.cells #[.slice a1 ns.length c1, .slice a2 es.length c2] 32)
  have hpl : (ptsOf ns f).length = ns.length := by unfold ptsOf; rw [List.length_map]
  obtain ⟨i0, hi0, hz0, hz1, hz2⟩ := info_parts (show (Tryz.prog.info? 72).map (fun i => (i.zero, i.size, i.bytes)) = some (some (.agg #[.int .i64 0, .int .i64 0]), 2, 16) by kernel_rfl)
  go_enter Tryz.func40, Tryz.ntmps40
  go_wp2
  go_loopw [5, 11] (fun out i wr => ∃ k : Nat, k ≤ ns.length ∧ i = .int .i64 k ∧ Below w.heap.size w wr ∧ wr.ownsRow w.heap.size 72 2 out k (((ptsOf ns f).take k).flatMap cP)) (fun _ i wr => ns.length - (intOf i).toNat)
  case atStart => exact ⟨0, by omega, rfl, hba, World.ownsRow_nil _ _ _ _⟩
  case round =>
    obtain ⟨k, hk, rfl, hb, hown⟩ := hrel
    by_cases hlt : k < ns.length
    · have f0 : decide ((k : Int) < ns.length) = true := decide_eq_true (by omega)
      have f0' : decide (k < ns.length) = true := decide_eq_true hlt
      have hlt2 : (k : Int) < ns.length := by omega
      have hr := h1.below ENd.kept hb
      obtain ⟨b, o, l1, d1, l2, d2, rfl, hS0, hc, hcl, hcf, _, _⟩ := RNd.at hr hlt
      have HT : Hid ((ptsOf ns f).take (k + 1) = (ptsOf ns f).take k ++ [⟨ns[k].id, f ns[k].id⟩]) := Lib.hid (by rw [take_snoc' _ k (by omega)]; simp [ptsOf])
      have hix := fun u hu => hclo u hu _ (List.getElem_mem hlt)
      obtain ⟨xi, hxi⟩ : ∃ xi, ns[k].id = xi := ⟨_, rfl⟩
      obtain ⟨xl, hxl⟩ : ∃ xl, ns[k].labels.length = xl := ⟨_, rfl⟩
      obtain ⟨xf, hxf⟩ : ∃ xf, ns[k].fields.length = xf := ⟨_, rfl⟩
      rw [hxi] at hc HT
      simp only [hxi] at hix
      rw [hxl] at hcl
      rw [hxf] at hcf
      clear hxi hxl hxf
      obtain ⟨y, hy⟩ : ∃ y, f xi = y := ⟨_, rfl⟩
      have hb3 := (Below.refl _ wr).alloc (Nat.le_refl _) (.cells #[.int .i64 xi, .slice l1 xl d1, .slice l2 xf d2] 60)
      have hbW := hb.trans (hb3.mono hb.size)
      have x0 : (wr.alloc (.cells #[.int .i64 xi, .slice l1 xl d1, .slice l2 xf d2] 60)).cell? ⟨wr.heap.size, 0, none⟩ = some (.int .i64 xi) := by rw [World.cell?_alloc_mark]; rfl
      have hoW := hown.alloc (.cells #[.int .i64 xi, .slice l1 xl d1, .slice l2 xf d2] 60)
      have hbx : wr.heap.size < (wr.alloc (.cells #[.int .i64 xi, .slice l1 xl d1, .slice l2 xf d2] 60)).heap.size := by simp
      obtain ⟨bx, hbxe⟩ : ∃ bx, wr.heap.size = bx := ⟨_, rfl⟩
      have hlw : w.heap.size ≤ bx := by rw [← hbxe]; exact hb.size
      have hnb : u5.ownBlock ≠ some bx := fun e => by have := (hown.lt bx e).2; omega
      go_upto_region 5 with fail
      rw [hbxe] at x0 hbx
      generalize wr.alloc (.cells #[.int .i64 xi, .slice l1 xl d1, .slice l2 xf d2] 60) = W at hbW x0 hoW hbx ⊢
      have hcl : Calls Tryz.prog 41 #[.int .i64 xi, .pointer (some ⟨cb, 0, none⟩)] W.drew (fun e w' => e = .returned (.int .i64 y) ∧ Below W.drew.heap.size W.drew w') := by
        have hbd : Below w.heap.size w W.drew := hbW.trans ((below_drew W).mono hbW.size)
        rw [← hy]
        exact hix W.drew hbd
      have hzW : w.heap.size ≤ W.heap.size := hbW.size
      have hoD : W.drew.ownsRow w.heap.size 72 2 u5 k (((ptsOf ns f).take k).flatMap cP) := hoW
      go_region_held_law (fun w' : World => w'.cell? ⟨bx, 0, none⟩ = some (.int .i64 xi)) (first | go_keep | exact d0 | exact d1) (first
        | (go_at_call 41; refine hcl.mono ?_; rintro e wc ⟨rfl, hbc⟩; have d1 : wc.cell? ⟨bx, 0, none⟩ = some (.int .i64 xi) := cell_kept (fun hl => hbc.block bx hl) x0; have hoC := own_kept hoD (fun b _ hl => hbc.block b hl); have hzC : W.heap.size ≤ wc.heap.size := hbc.size)
        | (refine step_append_lies _ (by rfl) (.tmp 15) (.tmp 23) 27 (by rfl) w.heap.size 72 i0 (.agg #[.int .i64 0, .int .i64 0]) 2 16 Tryz.underlying27 hi0 hz0 hz1 hz2 rfl (by decide) u5 k (((ptsOf ns f).take k).flatMap cP) (by rfl) (hoC.alloc _) ⟨_, 0, none⟩ 1 1 [.int .i64 xi, .int .i64 y] (by rfl) rfl (World.news_of_block (new_block (by simp) _ _)) (by intro u hu; simp at hu; rcases hu with rfl | rfl <;> rfl) (by decide) (by unfold maxLen; omega) (by omega) (by simp <;> omega) _ rfl ?_; intro g cap w6 hown6 hgrow6 hat6 hlt6; have hgrow6 : World.grownBy _ w6 u5.ownBlock := hgrow6; have d0 : w6.cell? ⟨bx, 0, none⟩ = some (.int .i64 xi) := ((World.cell?_of_block (a := ⟨bx, 0, none⟩) (hgrow6.block bx (Nat.lt_of_lt_of_le hbx (Nat.le_trans hzC (by simp))) (fun e => hnb e.symm))).trans (cell_kept (fun hl => ((Below.refl _ wc).alloc (Nat.le_refl _) _).block bx hl) d1))))
      have hbC : Below w.heap.size w wc := (hbW.trans ((below_drew W).mono hbW.size)).trans (hbc.mono hbW.size)
      have hbA : Below w.heap.size w (wc.alloc (.cells #[.int .i64 xi, .int .i64 y] 72)) := hbC.alloc hbC.size _
      have hb6 : Below w.heap.size w w6 := ⟨hgrow6.os.trans hbA.os, hgrow6.tape.trans hbA.tape, hgrow6.output.trans hbA.output, Nat.le_trans hbA.size hgrow6.size, fun q hq => (hgrow6.block q (Nat.lt_of_lt_of_le hq hbA.size) (fun e => by have := (hoW.lt q e.symm).1; omega)).trans (hbA.block q hq)⟩
      have hown7 : w6.ownsRow w.heap.size 72 2 (.slice (some ⟨g, 0, none⟩) (k + 1) cap) (k + 1) (((ptsOf ns f).take (k + 1)).flatMap cP) := by
        rw [HT.out, List.flatMap_append, hy]
        exact hown6
      go_wp2_with fail
      go_round
      case rel => exact ⟨k + 1, by omega, by go_num, hb6, hown7⟩
      case measure => simp [intOf]; omega
    · have hk3 : k = ns.length := by omega
      subst hk3
      have f0 : decide ((ns.length : Int) < ns.length) = false := decide_eq_false (by omega)
      rw [List.take_of_length_le (by omega), ← hpl] at hown
      obtain ⟨r1, r2⟩ := own_rpt hown (by omega)
      go_wp2_with fail
      go_ret
      exact ⟨_, rfl, r1, r2, hb⟩

theorem arcd_false (es : List Ed) : Arcd es false = Arc es := by funext a b; unfold Arcd; simp
theorem arcd_true (es : List Ed) : Arcd es true = fun a b => Arc es b a := by funext a b; unfold Arcd; simp
theorem both_iff {es : List Ed} {a u : Int} : Both es a u ↔ Rea (Arcd es false) a u ∧ Rea (Arcd es true) a u := by
  rw [arcd_false, arcd_true]
  exact and_congr Iff.rfl ⟨fun h => rea_turn (R := fun a b => Arc es b a) h, fun h => rea_turn h⟩
theorem min_in {P : Int → Prop} : ∀ {l : List Int}, (∃ y ∈ l, P y) → ∃ x ∈ l, P x ∧ ∀ y ∈ l, P y → x ≤ y
  | [], ⟨y, hy, _⟩ => by simp at hy
  | a :: l, ⟨y, hy, hp⟩ => by
    by_cases hl : ∃ y ∈ l, P y
    · obtain ⟨x, hx, hpx, hmin⟩ := min_in hl
      by_cases hc : P a ∧ a ≤ x
      · exact ⟨a, by simp, hc.1, fun z hz hpz => by
          rcases List.mem_cons.1 hz with rfl | hz
          · exact Int.le_refl _
          · have := hmin z hz hpz; omega⟩
      · exact ⟨x, by simp [hx], hpx, fun z hz hpz => by
          rcases List.mem_cons.1 hz with rfl | hz
          · by_cases q : z ≤ x
            · exact absurd ⟨hpz, q⟩ hc
            · omega
          · exact hmin z hz hpz⟩
    · have hya : y = a := by
        rcases List.mem_cons.1 hy with e | e
        · exact e
        · exact absurd ⟨y, e, hp⟩ hl
      subst hya
      exact ⟨y, by simp, hp, fun z hz hpz => by
        rcases List.mem_cons.1 hz with rfl | hz
        · exact Int.le_refl _
        · exact absurd ⟨z, hz, hpz⟩ hl⟩
theorem led_there {g : Gr} (h : Gw g) {a : Int} (ha : a ∈ idsOf g.nodes) : ∃ x, Led g.edges a x := by
  obtain ⟨x, _, hx, hmin⟩ := min_in (P := Both g.edges a) ⟨a, ha, both_refl _ _⟩
  refine ⟨x, hx, fun y hy => hmin y ?_ hy⟩
  obtain ⟨⟨k, hk⟩, _⟩ := hy
  exact wlk_in ha (fun a b r => (arc_in h r).2) hk
set_option maxHeartbeats 2000000 in
set_option maxRecDepth 100000 in
theorem strongclo_any (w : World) (S : Nat → Prop) (v1 v2 : Value) (g : Gr) (h : RGr w S (.agg #[v1, v2]) g) (hw : Gw g) (cb : Nat) (x0 : w.cell? ⟨cb, 0, none⟩ = some v1) (x1 : w.cell? ⟨cb, 1, none⟩ = some v2) (id : Int) (hid : id ∈ idsOf g.nodes) (f : Int → Int) (hf : Led g.edges id (f id)) :
    Calls Tryz.prog 41 #[.int .i64 id, .pointer (some ⟨cb, 0, none⟩)] w (fun e w' => e = .returned (.int .i64 (f id)) ∧ Below w.heap.size w w') := by
  have h0 := h
  obtain ⟨u1, u2, hu, h1, h2⟩ := h
  injection hu with hu
  have hu := Array.mk.inj hu
  simp only [List.cons.injEq, and_true] at hu
  obtain ⟨rfl, rfl⟩ := hu
  obtain ⟨a1, c1, rfl⟩ := h1.shape
  obtain ⟨a2, c2, rfl⟩ := h2.shape
  clear h1 h2
  have hdr : Below w.heap.size w w.drew := below_drew w
  have r1 := reachable_any w.drew S _ g (h0.below hdr) hw id hid false
  have y0 : w.drew.cell? ⟨cb, 0, none⟩ = some (.slice a1 g.nodes.length c1) := x0
  have y1 : w.drew.cell? ⟨cb, 1, none⟩ = some (.slice a2 g.edges.length c2) := x1
  go_enter Tryz.func41, Tryz.ntmps41
  go_upto_region 1 with fail
  have tok := True.intro
  go_region_held_law (fun w' : World => w'.cell? ⟨cb, 0, none⟩ = some (.slice a1 g.nodes.length c1) ∧ w'.cell? ⟨cb, 1, none⟩ = some (.slice a2 g.edges.length c2)) (first | go_keep | exact ⟨y0, y1⟩ | exact d1 | exact d2) (first
    | (go_at_call 42; clear tok; refine r1.mono ?_; rintro e wA ⟨bA, nA, DA, rfl, tA1, tA2, tA3, tA4, tA5, tA6, tA7⟩; have d1 : wA.cell? ⟨cb, 0, none⟩ = some (.slice a1 g.nodes.length c1) ∧ wA.cell? ⟨cb, 1, none⟩ = some (.slice a2 g.edges.length c2) := ⟨cell_kept (fun hl => tA7.block _ hl) y0, cell_kept (fun hl => tA7.block _ hl) y1⟩; have hbA := hdr.trans (tA7.mono hdr.size))
    | (go_at_call 42; refine (reachable_any wA S _ g (h0.below hbA) hw id hid true).mono ?_; rintro e wB ⟨bB, nB, DB, rfl, tB1, tB2, tB3, tB4, tB5, tB6, tB7⟩; have d2 : wB.cell? ⟨cb, 0, none⟩ = some (.slice a1 g.nodes.length c1) ∧ wB.cell? ⟨cb, 1, none⟩ = some (.slice a2 g.edges.length c2) := ⟨cell_kept (fun hl => tB7.block _ hl) d1.1, cell_kept (fun hl => tB7.block _ hl) d1.2⟩))
  have hbB := hbA.trans (tB7.mono hbA.size)
  have hownA := own_block tA2 (tB7.block bA tA2.lt)
  have hboth : ∀ u, Both g.edges id u ↔ Maps.has DA (.int .i64 u) = true ∧ Maps.has DB (.int .i64 u) = true := fun u => by rw [both_iff, tA5, tB5]
  have hbl := tB2.lt
  clear tA1 tA2 tA3 tA4 tA5 tA6 tA7 tB1 tB3 tB4 tB5 tB6 tB7 d1 d2 y0 y1 r1 hdr hbA x0 x1 h0
  go_upto_region 4 with (first
    | (at_range; refine wpList_range_own _ rfl _ 66 rfl 2 2 kmap2 Tryz.underlying66 _ bA nA _ rfl hownA ?_; intro w0 hrg0 hg0 hs0)
    | fail)
  go_frame
  have hb0 : Below w.heap.size w w0 := ⟨hg0.os.trans hbB.os, hg0.tape.trans hbB.tape, hg0.output.trans hbB.output, Nat.le_trans hbB.size hg0.size, fun q hq => (hg0.block q (Nat.lt_of_lt_of_le hq hbB.size) (by simp)).trans (hbB.block q hq)⟩
  have hownB := own_block tB2 (hg0.block bB tB2.lt (by simp))
  obtain ⟨r, hr⟩ : ∃ r, wB.heap.size = r := ⟨_, rfl⟩
  rw [hr] at hrg0 hbl
  have hrw : w.heap.size ≤ r := by rw [← hr]; exact hbB.size
  simp only [hr]
  clear hg0 hs0 hbB hownA tB2 hr
  go_loopw [6, 7, 8, 9] (fun lv _ _ _ wr => ∃ (left : Lit → Bool) (cnt : Nat) (x : Int), lv = .int .i64 x ∧ wr.ranges Tryz.prog 2 (plainElem Tryz.prog 2) bA r nA DA left cnt ∧ wr.ownsMap Tryz.prog 2 (plainElem Tryz.prog 2) bB nB DB ∧ Below w.heap.size w wr ∧ Both g.edges id x ∧ ∀ y, Both g.edges id y → left (.int .i64 y) = false → x ≤ y) (fun _ _ _ _ wr => wr.rangeLeft bA r)
  case atStart => exact ⟨_, _, id, rfl, hrg0, hownB, hb0, both_refl _ _, fun y hy e => by rw [((hboth y).1 hy).1] at e; cases e⟩
  case round =>
    clear hrg0 hownB hb0
    obtain ⟨left, cnt, x, rfl, hrg, hownB, hb, hx, hmin⟩ := hrel
    go_upto_region 5 with (at_next; refine wpList_next_ranges_ii _ rfl _ rfl 2 2 .i64 .i64 kmap2 Tryz.underlying2 Tryz.underlying2 bA r nA _ _ _ rfl hrg ?_ ?_)
    · intro _ hl0
      have hL : f id = x := hf.same ⟨hx, fun y hy => hmin y hy (hl0 _)⟩
      go_wp2
      go_ret
      exact ⟨by rw [hL]; rfl, hb⟩
    · intro u c w5 cnt5 hwu hwc hlu hat5 hrg5 hlt5 hg5 hs5 hen
      have huI := i64_wf hwu
      have hAu := Maps.has_true_of_atKey hat5
      have hown5 := own_block hownB (hg5.block bB hownB.lt (fun e => by have := Option.some.inj e; omega))
      have hb5 : Below w.heap.size w w5 := ⟨hg5.os.trans hb.os, hg5.tape.trans hb.tape, hg5.output.trans hb.output, Nat.le_trans hb.size hg5.size, fun q hq => (hg5.block q (Nat.lt_of_lt_of_le hq hb.size) (fun e => by have := Option.some.inj e; omega)).trans (hb.block q hq)⟩
      obtain ⟨vv, ps, hlk, -⟩ := hown5.look_ok kmap2 Tryz.underlying66 (zero2 w5) (zd := .lit (.int .i64 0)) (zp := []) (plainElem_int Tryz.underlying2 (show I64 0 from ⟨by decide, by decide⟩).wf) (key2 huI)
      have hle5 := hrg5.left_eq
      have hle0 := hrg.left_eq
      have hleft : ∀ y, (left (.int .i64 y) && !(Lit.int .i64 y).sameKey (.int .i64 u)) = false → left (.int .i64 y) = false ∨ y = u := fun y hl => by
        rw [Bool.and_eq_false_iff, Bool.not_eq_false'] at hl
        rcases hl with a | a
        · exact .inl a
        · exact .inr (by have := WideAt.sameKey_eq a; injection this)
      have hbu := hboth u
      rw [hAu] at hbu
      clear hat5 hownB hb hg5 hs5 hAu
      cases hB : Maps.has DB (.int .i64 u) with
      | false =>
        rw [hB] at hlk hbu
        have hmin2 : ∀ y, Both g.edges id y → (left (.int .i64 y) && !(Lit.int .i64 y).sameKey (.int .i64 u)) = false → x ≤ y := fun y hy hl => by
          rcases hleft y hl with a | a
          · exact hmin y hy a
          · subst a; have := hbu.1 hy; simp at this
        clear hleft hmin hbu hB
        go_wp2_with fail
        go_roundw
        case rel => exact ⟨_, cnt5, x, rfl, hrg5, hown5, hb5, hx, hmin2⟩
        case measure => rw [hle5, hle0]; exact hlt5
      | true =>
        rw [hB] at hlk hbu
        have hbu2 := hbu.2 ⟨rfl, rfl⟩
        by_cases hxu : x ≤ u
        · have f1 : min x u = x := Int.min_eq_left hxu
          have hmin2 : ∀ y, Both g.edges id y → (left (.int .i64 y) && !(Lit.int .i64 y).sameKey (.int .i64 u)) = false → x ≤ y := fun y hy hl => by
            rcases hleft y hl with a | a
            · exact hmin y hy a
            · subst a; exact hxu
          clear hleft hmin hbu hB hxu
          go_wp2_with fail
          go_roundw
          case rel => exact ⟨_, cnt5, x, rfl, hrg5, hown5, hb5, hx, hmin2⟩
          case measure => rw [hle5, hle0]; exact hlt5
        · have f1 : min x u = u := Int.min_eq_right (by omega)
          have hmin2 : ∀ y, Both g.edges id y → (left (.int .i64 y) && !(Lit.int .i64 y).sameKey (.int .i64 u)) = false → u ≤ y := fun y hy hl => by
            rcases hleft y hl with a | a
            · have := hmin y hy a; omega
            · subst a; exact Int.le_refl _
          clear hleft hmin hbu hB hxu
          go_wp2_with fail
          go_roundw
          case rel => exact ⟨_, cnt5, u, rfl, hrg5, hown5, hb5, hbu2, hmin2⟩
          case measure => rw [hle5, hle0]; exact hlt5
set_option maxHeartbeats 2000000 in
set_option maxRecDepth 100000 in
theorem strong_any (w : World) (hE : Env w) (S : Nat → Prop) (v : Value) (g : Gr) (h : RGr w S v g) : Calls Tryz.prog 11 #[v] w (StrongR g w) := by
  have h0 := h
  obtain ⟨v1, v2, rfl, h1, h2⟩ := h
  obtain ⟨a1, c1, rfl⟩ := h1.shape
  obtain ⟨a2, c2, rfl⟩ := h2.shape
  obtain ⟨n1, hn1⟩ : ∃ n, g.nodes.length = n := ⟨_, rfl⟩
  obtain ⟨n2, hn2⟩ : ∃ n, g.edges.length = n := ⟨_, rfl⟩
  rw [hn1, hn2] at h0
  rw [hn1, hn2]
  clear h1 h2 hn1 hn2
  have hba := (Below.refl _ w).alloc (Nat.le_refl _) (.cells #[.slice a1 n1 c1, .slice a2 n2 c2] 32)
  have r1 := h0.below hba
  have hE1 := hE.below hba
  have x0 : (w.alloc (.cells #[.slice a1 n1 c1, .slice a2 n2 c2] 32)).cell? ⟨w.heap.size, 0, none⟩ = some (.slice a1 n1 c1) := by rw [World.cell?_alloc_mark]; rfl
  have x1 : (w.alloc (.cells #[.slice a1 n1 c1, .slice a2 n2 c2] 32)).cell? ⟨w.heap.size, 1, none⟩ = some (.slice a2 n2 c2) := by rw [World.cell?_alloc_mark]; rfl
  cases hg : gOk g with
  | false =>
    go_enter Tryz.func11, Tryz.ntmps11
    go_wp2_with (go_at_call 39; refine (graphOk_is _ hE1 _ _ _ _ hg r1).mono ?_; rintro e w1 ⟨rfl, hb1⟩)
    go_ret
    exact ⟨[], ⟨(fun _ => rfl), (fun h => by rw [hg] at h; cases h)⟩, PtsR.nil _ _ _ _ (hba.trans (hb1.mono hba.size))⟩
  | true =>
    have hw := gw_of hg
    have hlen := (gOk_parts hg).1
    obtain ⟨f, hf⟩ : ∃ f : Int → Int, ∀ id ∈ idsOf g.nodes, Led g.edges id (f id) := by
      have hex : ∀ id, ∃ x, id ∈ idsOf g.nodes → Led g.edges id x := fun id => by
        by_cases q : id ∈ idsOf g.nodes
        · obtain ⟨x, hx⟩ := led_there hw q
          exact ⟨x, fun _ => hx⟩
        · exact ⟨0, fun k => absurd k q⟩
      exact ⟨fun id => (hex id).choose, fun id q => (hex id).choose_spec q⟩
    go_enter Tryz.func11, Tryz.ntmps11
    go_upto_region 3 with (go_at_call 39; refine (graphOk_is _ hE1 _ _ _ _ hg r1).mono ?_; rintro e w1 ⟨rfl, hb1⟩; have r2 := r1.below hb1; have y0 := cell_kept (fun hl => hb1.block _ hl) x0; have y1 := cell_kept (fun hl => hb1.block _ hl) x1)
    have hbA := hba.trans (hb1.mono hba.size)
    have hper := pernode_strong w1 S _ g r2 hlen w.heap.size f (fun u hu x hx => strongclo_any u S _ _ g (r2.below hu) hw w.heap.size (cell_kept (fun hl => hu.block _ hl) y0) (cell_kept (fun hl => hu.block _ hl) y1) x.id (List.mem_map.2 ⟨x, hx, rfl⟩) f (hf _ (List.mem_map.2 ⟨x, hx, rfl⟩)))
    go_wp2_with (go_at_call 40; refine hper.mono ?_; rintro e w4 ⟨vv, rfl, q1, q2, hb4⟩)
    go_ret
    exact ⟨_, ⟨(fun h => by rw [hg] at h; cases h), (fun _ => ⟨f, hf, rfl⟩)⟩, vv, rfl, q1.mono EPt.mono (fun b hb => Nat.le_trans hbA.size hb), Own.low q2 hbA.size, hbA.trans (hb4.mono hbA.size)⟩
end Go.Proofs.YtbaljljlahhkfaaGreatDoor
