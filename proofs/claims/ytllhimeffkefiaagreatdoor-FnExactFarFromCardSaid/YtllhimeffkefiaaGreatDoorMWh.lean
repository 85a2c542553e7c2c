/- Texts of one proof, joined in their order: each bears its own word of what it holds and on what condition. -/
import Derived.Test.YtllhimeffkefiaaGreatDoorMWf
set_option linter.unusedVariables false
set_option linter.unusedSimpArgs false
/- impl's map of what can be come to, with how far; the closure of StrongParts. Condition: a right graph. -/
set_option linter.unusedVariables false
set_option linter.unusedSimpArgs false
namespace Go.Proofs.YtllhimeffkefiaaGreatDoor
open Go.RowKit Go.Sort

/-- visit of reachable: its map lies in block bo, the variable in block cb -/
def RInv (cb bo : Nat) : VInv := fun W V done => ∃ n D, W.ownsMap Tryz.prog 2 (plainElem Tryz.prog 2) bo n D ∧ n ≤ done.length ∧ DistM done D ∧ W.cell? ⟨cb, 0, none⟩ = some (.map (some bo)) ∧ V = fun q => q = bo ∨ q = cb
theorem rinv_lt {cb bo : Nat} : ∀ W V d, RInv cb bo W V d → ∀ q, V q → q < W.heap.size := by
  rintro W V d ⟨n, D, h1, _, _, h4, rfl⟩ q (rfl | rfl)
  · exact h1.lt
  · exact lt_of_cell h4
theorem rinv_keep {cb bo : Nat} : ∀ W W' V d, RInv cb bo W V d → (∀ q, V q → W'.heap[q]? = W.heap[q]?) → RInv cb bo W' V d := by
  rintro W W' V d ⟨n, D, h1, h2, h3, h4, rfl⟩ hk
  exact ⟨n, D, own_block h1 (hk bo (.inl rfl)), h2, h3, (World.cell?_of_block (a := ⟨cb, 0, none⟩) (hk cb (.inr rfl))).trans h4, rfl⟩
theorem dist_store {w : World} {b n : Nat} {D : DataW Unit} (ho : w.ownsMap Tryz.prog 2 (plainElem Tryz.prog 2) b n D) (hn : n < 1048576) {u : Int} (hi : I64 u) (k : Nat) (hk : k ≤ 1000000) :
    ∃ w', (Instr.mapUpdate 90 (.map (some b)) (.int .i64 u) (.int .i64 (k : Int))).run Tryz.prog w = .ok () w' ∧ w'.ownsMap Tryz.prog 2 (plainElem Tryz.prog 2) b (n + 1) (D.put (.int .i64 u) (.lit (.int .i64 (k : Int)))) ∧ w.grownBy w' (some b) :=
  ho.update kmap2 Tryz.underlying90 (Nat.lt_of_lt_of_le hn (by decide)) (key2 hi) (plainElem_int Tryz.underlying2 (show I64 (k : Int) from ⟨by omega, by omega⟩).wf)
theorem visit_reach {ids : List Int} (hids : ∀ u ∈ ids, I64 u) (cb bo : Nat) (hne : cb ≠ bo) : VisR 84 ids (RInv cb bo) cb := by
  rintro W V d u far ⟨n, D, h1, h2, h3, h4, rfl⟩ hu hfar hnew hdl
  obtain ⟨w', hr, ho, hg⟩ := dist_store h1 (by omega) (hids u hu) far (by omega)
  have hD := h3.put far hnew
  have hc := cell_kept (fun hl => hg.block cb hl (fun e => hne (Option.some.inj e))) h4
  go_enter Tryz.func84, Tryz.ntmps84
  go_wp2
  go_ret
  exact ⟨rfl, _, ⟨n + 1, _, ho, by rw [List.length_append]; simp; omega, hD, hc, rfl⟩, (Kp.of_grown hg).mono (fun q e => .inl (Option.some.inj e)), fun q hq => .inl hq⟩
/-- the map of distances -/
def RchR (g : Gr) (ag : Bool) (s : Int) (w : World) (e : Ending) (w' : World) : Prop := ∃ bo n D, e = .returned (.map (some bo)) ∧ w.heap.size ≤ bo ∧ w'.ownsMap Tryz.prog 2 (plainElem Tryz.prog 2) bo n D ∧ n ≤ 200 ∧ (∃ l : List (Lit × DataW Unit), D = .map l ∧ ∀ p ∈ l, ∃ id, p.1 = .int .i64 id) ∧
  (∀ u, Maps.has D (.int .i64 u) = true ↔ Rea (Arcd g.edges ag) s u) ∧ (∀ u k, Dst (Arcd g.edges ag) s k u → ∀ zd, D.atKey (.int .i64 u) zd = .lit (.int .i64 (k : Int))) ∧ Below w.heap.size w w'
set_option maxHeartbeats 1000000 in
set_option maxRecDepth 100000 in
theorem reachable_any (w : World) (S : Nat → Prop) (v : Value) (g : Gr) (h : RGr w S v g) (hw : Gw g) (s : Int) (hs : s ∈ idsOf g.nodes) (ag : Bool) :
    Calls Tryz.prog 51 #[v, .int .i64 s, .bool ag] w (RchR g ag s w) := by
  have h0 := h.within
  obtain ⟨v1, v2, rfl, h1, h2⟩ := h
  obtain ⟨a1, c1, rfl⟩ := h1.shape
  obtain ⟨a2, c2, rfl⟩ := h2.shape
  obtain ⟨n1, hn1⟩ : ∃ n, g.nodes.length = n := ⟨_, rfl⟩
  obtain ⟨n2, hn2⟩ : ∃ n, g.edges.length = n := ⟨_, rfl⟩
  have hlen := hw.n
  rw [hn1] at hlen
  have HIL : Hid ((idsOf g.nodes).length = n1) := Lib.hid (by unfold idsOf; rw [List.length_map, hn1])
  rw [hn1, hn2] at h0
  rw [hn1, hn2]
  clear h1 h2 hn1 hn2
  have hmm := @run_makeMap Tryz.prog
  go_enter Tryz.func51, Tryz.ntmps51
  go_upto_region 2 with fail
  have e1 : (w.alloc (.cells #[.slice a1 n1 c1, .slice a2 n2 c2] 36)).heap.size = w.heap.size + 1 := by simp
  have e2 : ((w.alloc (.cells #[.slice a1 n1 c1, .slice a2 n2 c2] 36)).alloc (.map #[] 0)).heap.size = w.heap.size + 1 + 1 := by simp
  have x0 : (((w.alloc (.cells #[.slice a1 n1 c1, .slice a2 n2 c2] 36)).alloc (.map #[] 0)).alloc (.cells #[.map (some (w.heap.size + 1))] 90)).cell? ⟨w.heap.size, 0, none⟩ = some (.slice a1 n1 c1) := cell_alloc (cell_alloc (by rw [World.cell?_alloc_mark]; rfl) _) _
  have x1 : (((w.alloc (.cells #[.slice a1 n1 c1, .slice a2 n2 c2] 36)).alloc (.map #[] 0)).alloc (.cells #[.map (some (w.heap.size + 1))] 90)).cell? ⟨w.heap.size, 1, none⟩ = some (.slice a2 n2 c2) := cell_alloc (cell_alloc (by rw [World.cell?_alloc_mark]; rfl) _) _
  have xb : (((w.alloc (.cells #[.slice a1 n1 c1, .slice a2 n2 c2] 36)).alloc (.map #[] 0)).alloc (.cells #[.map (some (w.heap.size + 1))] 90)).cell? ⟨w.heap.size + 1 + 1, 0, none⟩ = some (.map (some (w.heap.size + 1))) := by rw [← e2, World.cell?_alloc_mark]; rfl
  have hba : Below w.heap.size w (((w.alloc (.cells #[.slice a1 n1 c1, .slice a2 n2 c2] 36)).alloc (.map #[] 0)).alloc (.cells #[.map (some (w.heap.size + 1))] 90)) := (((Below.refl _ w).alloc (Nat.le_refl _) _).alloc (by simp) _).alloc (by simp <;> omega) _
  have hm0 : (((w.alloc (.cells #[.slice a1 n1 c1, .slice a2 n2 c2] 36)).alloc (.map #[] 0)).alloc (.cells #[.map (some (w.heap.size + 1))] 90)).ownsMap Tryz.prog 2 (plainElem (H := Unit) Tryz.prog 2) (w.heap.size + 1) 0 (.map []) := by
    rw [← e1]; exact (World.ownsMap_made _ _ _ _).alloc _
  have hI : RInv (w.heap.size + 1 + 1) (w.heap.size + 1) (((w.alloc (.cells #[.slice a1 n1 c1, .slice a2 n2 c2] 36)).alloc (.map #[] 0)).alloc (.cells #[.map (some (w.heap.size + 1))] 90)) _ [] := ⟨0, _, hm0, by simp, DistM.none, xb, rfl⟩
  clear e1 e2 hm0 xb
  generalize ((w.alloc (.cells #[.slice a1 n1 c1, .slice a2 n2 c2] 36)).alloc (.map #[] 0)).alloc (.cells #[.map (some (w.heap.size + 1))] 90) = W at x0 x1 hba hI ⊢
  have hlev := levels_reach W _ _ g (h0.below hba) hw s hs ag (w.heap.size + 1 + 1) _ (RInv (w.heap.size + 1 + 1) (w.heap.size + 1)) (by rintro b ⟨_, hb⟩ (rfl | rfl) <;> omega) hI rinv_lt rinv_keep (visit_reach (fun u hu => id_I64 (hw.id u hu)) _ _ (by omega))
  go_upto_region 3 with (go_at_call 62; refine hlev.mono ?_; rintro e w3 ⟨rfl, V, done, ⟨n, D, k1, k2, k3, k4, k5⟩, hd, hnd, hsub, hkp, hV⟩)
  go_wp2_with fail
  go_ret
  have hdl : done.length ≤ 200 := by
    have := nodup_le _ (idsOf g.nodes) hnd (fun x hx => by obtain ⟨p, hp, rfl⟩ := List.mem_map.1 hx; exact hsub p hp)
    rw [List.length_map, HIL.out] at this
    omega
  refine ⟨w.heap.size + 1, n, D, rfl, by omega, k1, by omega, k3.form, fun u => ?_, fun u k q => k3.val u k ((hd u k).2 q), hba.trans (hkp.below hba.size (by rintro q (rfl | rfl) <;> omega))⟩
  rw [k3.has]
  constructor
  · rintro ⟨k, q⟩; exact ((hd u k).1 q).rea
  · intro q
    obtain ⟨k, q⟩ := q.dst
    exact ⟨k, (hd u k).2 q⟩
end Go.Proofs.YtllhimeffkefiaaGreatDoor
/- impl's StrongParts, whole. Condition: the library's variables are as they were laid. -/
set_option linter.unusedVariables false
set_option linter.unusedSimpArgs false
namespace Go.Proofs.YtllhimeffkefiaaGreatDoor
open Go.RowKit Go.Sort

theorem arcd_false (es : List Ed) : Arcd es false = Arc es := by funext a b; unfold Arcd; simp
theorem arcd_true (es : List Ed) : Arcd es true = fun a b => Arc es b a := by funext a b; unfold Arcd; simp
theorem both_iff {es : List Ed} {a u : Int} : Both es a u ↔ Rea (Arcd es false) a u ∧ Rea (Arcd es true) a u := by
  rw [arcd_false, arcd_true]
  exact and_congr Iff.rfl ⟨fun h => rea_turn (R := fun a b => Arc es b a) h, fun h => rea_turn h⟩
theorem min_in {P : Int → Prop} : ∀ {l : List Int}, (∃ y ∈ l, P y) → ∃ x ∈ l, P x ∧ ∀ y ∈ l, P y → x ≤ y
  | [], ⟨y, hy, _⟩ => by simp at hy
  | a :: l, ⟨y, hy, hp⟩ => by
    by_cases hl : ∃ y ∈ l, P y
    · obtain ⟨x, hx, hpx, hmin⟩ := min_in hl
      by_cases hc : P a ∧ a ≤ x
      · exact ⟨a, by simp, hc.1, fun z hz hpz => by
          rcases List.mem_cons.1 hz with rfl | hz
          · exact Int.le_refl _
          · have := hmin z hz hpz; omega⟩
      · exact ⟨x, by simp [hx], hpx, fun z hz hpz => by
          rcases List.mem_cons.1 hz with rfl | hz
          · by_cases q : z ≤ x
            · exact absurd ⟨hpz, q⟩ hc
            · omega
          · exact hmin z hz hpz⟩
    · have hya : y = a := by
        rcases List.mem_cons.1 hy with e | e
        · exact e
        · exact absurd ⟨y, e, hp⟩ hl
      subst hya
      exact ⟨y, by simp, hp, fun z hz hpz => by
        rcases List.mem_cons.1 hz with rfl | hz
        · exact Int.le_refl _
        · exact absurd ⟨z, hz, hpz⟩ hl⟩
theorem led_there {g : Gr} (h : Gw g) {a : Int} (ha : a ∈ idsOf g.nodes) : ∃ x, Led g.edges a x := by
  obtain ⟨x, _, hx, hmin⟩ := min_in (P := Both g.edges a) ⟨a, ha, both_refl _ _⟩
  refine ⟨x, hx, fun y hy => hmin y ?_ hy⟩
  obtain ⟨⟨k, hk⟩, _⟩ := hy
  exact wlk_in ha (fun a b r => (arc_in h r).2) hk
end Go.Proofs.YtllhimeffkefiaaGreatDoor
