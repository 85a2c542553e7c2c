/- Texts of one proof, joined in their order: each bears its own word of what it holds and on what condition. -/
import Derived.Test.YtaoccbhdlkflfaaGreatDoorMN
import Derived.Test.YtaoccbhdlkflfaaGreatDoorMO
set_option linter.unusedVariables false
set_option linter.unusedSimpArgs false
/- The nodes without which there are more parts: the plain law. No walk here. -/
set_option linter.unusedVariables false
set_option linter.unusedSimpArgs false
namespace Go.Proofs.YtaoccbhdlkflfaaGreatDoor
open Go.RowKit Go.Sort

def cutNs (ns : List Nd) (v : Int) : List Nd := ns.filter fun x => decide (x.id ≠ v)
def cutEs (es : List Ed) (v : Int) : List Ed := es.filter fun e => decide (e.src ≠ v ∧ e.dst ≠ v)
theorem mem_cutNs {ns : List Nd} {v x : Int} : x ∈ idsOf (cutNs ns v) ↔ x ∈ idsOf ns ∧ x ≠ v := by
  unfold idsOf cutNs
  rw [List.mem_map, List.mem_map]
  constructor
  · rintro ⟨a, ha, rfl⟩
    rw [List.mem_filter, decide_eq_true_eq] at ha
    exact ⟨⟨a, ha.1, rfl⟩, ha.2⟩
  · rintro ⟨⟨a, ha, rfl⟩, h⟩
    exact ⟨a, List.mem_filter.2 ⟨ha, decide_eq_true h⟩, rfl⟩
theorem mem_cutEs {es : List Ed} {v : Int} {e : Ed} : e ∈ cutEs es v ↔ e ∈ es ∧ e.src ≠ v ∧ e.dst ≠ v := by
  unfold cutEs
  rw [List.mem_filter, decide_eq_true_eq]
theorem gw_cut {g : Gr} (h : Gw g) (v : Int) : Gw ⟨cutNs g.nodes v, cutEs g.edges v⟩ := by
  have hp : g.nodes.Pairwise fun a b => a.id < b.id := List.pairwise_iff_getElem.2 fun i j hi hj hij => h.rise i j hj hij
  have hq : (cutNs g.nodes v).Pairwise fun a b => a.id < b.id := hp.filter _
  refine ⟨Nat.le_trans (List.length_filter_le _ _) h.n, Nat.le_trans (List.length_filter_le _ _) h.e, fun id hi => h.id id (mem_cutNs.1 hi).1, fun k hk => ?_, fun i j hj hij => List.pairwise_iff_getElem.1 hq i j (Nat.lt_trans hij hj) hj hij⟩
  obtain ⟨h1, h2, h3⟩ := mem_cutEs.1 (List.getElem_mem hk)
  obtain ⟨m1, m2⟩ := gOk_mem h h1
  exact ⟨mem_cutNs.2 ⟨m1, h2⟩, mem_cutNs.2 ⟨m2, h3⟩⟩
/-- v has a neighbour that is another -/
def nbr (es : List Ed) (v : Int) : Bool := es.any fun e => decide ((e.src = v ∧ e.dst ≠ v) ∨ (e.dst = v ∧ e.src ≠ v))
theorem nbr_iff {es : List Ed} {v : Int} : nbr es v = true ↔ ∃ e ∈ es, (e.src = v ∧ e.dst ≠ v) ∨ (e.dst = v ∧ e.src ≠ v) := by
  unfold nbr
  rw [List.any_eq_true]
  simp only [decide_eq_true_eq]
theorem nbr_not {es : List Ed} {v : Int} (h : nbr es v = false) {e : Ed} (he : e ∈ es) : e.src = v ↔ e.dst = v := by
  have hn : ¬ ((e.src = v ∧ e.dst ≠ v) ∨ (e.dst = v ∧ e.src ≠ v)) := fun q => by
    have := nbr_iff.2 ⟨e, he, q⟩
    rw [h] at this; cases this
  constructor
  · intro a; exact Classical.byContradiction fun b => hn (.inl ⟨a, b⟩)
  · intro a; exact Classical.byContradiction fun b => hn (.inr ⟨a, b⟩)
theorem con_cut {es : List Ed} {v a b : Int} (h : nbr es v = false) (hc : Con es a b) (ha : a ≠ v) : b ≠ v ∧ Con (cutEs es v) a b := by
  induction hc with
  | refl => exact ⟨ha, .refl _⟩
  | step _ he ih =>
    obtain ⟨hb, hc⟩ := ih
    obtain ⟨e, he, q⟩ := he
    have hi := nbr_not h he
    rcases q with ⟨q1, q2⟩ | ⟨q1, q2⟩
    · have h1 : e.src ≠ v := q1 ▸ hb
      have h2 : e.dst ≠ v := fun z => h1 (hi.2 z)
      exact ⟨q2 ▸ h2, hc.step ⟨e, mem_cutEs.2 ⟨he, h1, h2⟩, .inl ⟨q1, q2⟩⟩⟩
    · have h1 : e.dst ≠ v := q1 ▸ hb
      have h2 : e.src ≠ v := fun z => h1 (hi.1 z)
      exact ⟨q2 ▸ h2, hc.step ⟨e, mem_cutEs.2 ⟨he, h2, h1⟩, .inr ⟨q1, q2⟩⟩⟩
theorem cut_con {es : List Ed} {v a b : Int} (hc : Con (cutEs es v) a b) : Con es a b := by
  induction hc with
  | refl => exact .refl _
  | step _ he ih =>
    obtain ⟨e, he, q⟩ := he
    exact ih.step ⟨e, (mem_cutEs.1 he).1, q⟩
/-- a lone node: the others' parts are as they were -/
theorem lone_part {ns : List Nd} {es : List Ed} {f : Int → Int} {v : Int} (h : IsPart (idsOf ns) es f) (hn : nbr es v = false) : IsPart (idsOf (cutNs ns v)) (cutEs es v) f := fun id hid => by
  obtain ⟨hid, hne⟩ := mem_cutNs.1 hid
  obtain ⟨h1, h2, h3⟩ := h id hid
  obtain ⟨c1, c2⟩ := con_cut hn h2 hne
  exact ⟨mem_cutNs.2 ⟨h1, c1⟩, c2, fun y hy hc => h3 y (mem_cutNs.1 hy).1 (cut_con hc)⟩
theorem vals_lone {ns : List Nd} {es : List Ed} {f : Int → Int} {v : Int} {a : Nat} (h : IsPart (idsOf ns) es f) (hn : nbr es v = false) (hc : CardOf (fun x => ∃ id ∈ idsOf ns, id ≠ v ∧ f id = x) a) : Comps (idsOf (cutNs ns v)) (cutEs es v) a :=
  hc.congr fun x => by
    rw [← (lone_part h hn).lead x]
    constructor
    · rintro ⟨id, a, b, c⟩; exact ⟨id, mem_cutNs.2 ⟨a, b⟩, c⟩
    · rintro ⟨id, a, c⟩; exact ⟨id, (mem_cutNs.1 a).1, (mem_cutNs.1 a).2, c⟩
theorem vals_near {g : Gr} (hw : Gw g) {f : Int → Int} {v : Int} {a : Nat} (h : IsPart (idsOf g.nodes) g.edges f) (hv : v ∈ idsOf g.nodes) (hn : nbr g.edges v = true) (hc : CardOf (fun x => ∃ id ∈ idsOf g.nodes, id ≠ v ∧ f id = x) a) : Comps (idsOf g.nodes) g.edges a :=
  hc.congr fun x => by
    rw [← h.lead x]
    constructor
    · rintro ⟨id, a, _, c⟩; exact ⟨id, a, c⟩
    · rintro ⟨id, hid, c⟩
      by_cases e : id = v
      · subst e
        obtain ⟨e, he, q⟩ := nbr_iff.1 hn
        obtain ⟨m1, m2⟩ := gOk_mem hw he
        have same : ∀ y ∈ idsOf g.nodes, Con g.edges id y → f id = f y := fun y hy hcy => by
          obtain ⟨a1, a2, a3⟩ := h id hid
          obtain ⟨b1, b2, b3⟩ := h y hy
          have := a3 _ b1 (hcy.trans b2)
          have := b3 _ a1 (hcy.symm.trans a2)
          omega
        rcases q with ⟨q1, q2⟩ | ⟨q1, q2⟩
        · exact ⟨e.dst, m2, q2, by rw [← same _ m2 (q1 ▸ Con.one he)]; exact c⟩
        · exact ⟨e.src, m1, q2, by rw [← same _ m1 (q1 ▸ Con.one' he)]; exact c⟩
      · exact ⟨id, hid, e, c⟩
/-- the cut nodes -/
def CutX (g : Gr) (xs : List Int) : Prop := (gOk g = false → xs = []) ∧ (gOk g = true → ∃ (c : Nat) (cs : Nat → Nat), Comps (idsOf g.nodes) g.edges c ∧ (∀ k (hk : k < g.nodes.length), nbr g.edges g.nodes[k].id = true → Comps (idsOf (cutNs g.nodes g.nodes[k].id)) (cutEs g.edges g.nodes[k].id) (cs k)) ∧
  xs = pickN (fun k => (g.nodes.getD k n0).id) (fun k => nbr g.edges (g.nodes.getD k n0).id && decide (c < cs k)) g.nodes.length)
theorem CutX.same {g : Gr} {xs ys : List Int} (h : CutX g xs) (k : CutX g ys) : xs = ys := by
  cases hg : gOk g with
  | false => rw [h.1 hg, k.1 hg]
  | true =>
    obtain ⟨c, cs, h1, h2, rfl⟩ := h.2 hg
    obtain ⟨d, ds, k1, k2, rfl⟩ := k.2 hg
    have e := h1.same k1
    subst e
    refine pickN_congr fun j hj => ⟨rfl, ?_⟩
    rw [getD_eq hj]
    cases hn : nbr g.edges g.nodes[j].id with
    | false => rfl
    | true => rw [(h2 j hj hn).same (k2 j hj hn)]
theorem CutX.len {g : Gr} {xs : List Int} (h : CutX g xs) : xs.length ≤ 200 := by
  cases hg : gOk g with
  | false => rw [h.1 hg]; simp
  | true =>
    obtain ⟨c, cs, _, _, rfl⟩ := h.2 hg
    exact Nat.le_trans (pickN_len _ _ _) (gOk_parts hg).1
/-- impl's test of one node -/
theorem cut_test {g : Gr} (hw : Gw g) {f : Int → Int} {v : Int} {a b c : Nat} (h : IsPart (idsOf g.nodes) g.edges f) (hv : v ∈ idsOf g.nodes) (hc : Comps (idsOf g.nodes) g.edges c) (hb : Comps (idsOf (cutNs g.nodes v)) (cutEs g.edges v) b) (ha : CardOf (fun x => ∃ id ∈ idsOf g.nodes, id ≠ v ∧ f id = x) a) : decide (a < b) = (nbr g.edges v && decide (c < b)) := by
  cases hn : nbr g.edges v with
  | false =>
    have := (vals_lone h hn ha).same hb
    rw [this]
    simp
  | true =>
    have := (vals_near hw h hv hn ha).same hc
    rw [this]
    rfl
/-- one node is gone -/
def gone1 (i : Nat) : Nat → Bool := fun j => if j = i then true else false
theorem comps_gone1 {g : Gr} (h : Gw g) {i : Nat} (hi : i < g.nodes.length) {c : Nat} (hc : CardOf (StS g.nodes.length (lnks g.nodes g.edges) (gone1 i)) c) : Comps (idsOf (cutNs g.nodes g.nodes[i].id)) (cutEs g.edges g.nodes[i].id) c := by
  have ng : ∀ x, Gd g.nodes (gone1 i) x ↔ x = g.nodes[i].id := fun x => by
    constructor
    · rintro ⟨j, hj, q, rfl⟩
      unfold gone1 at q
      split at q
      · rename_i e; subst e; rfl
      · cases q
    · rintro rfl; exact ⟨i, hi, by simp [gone1], rfl⟩
  exact comps_starts h (fun x => by rw [mem_cutNs, ng]) (fun e => by rw [mem_cutEs, ng, ng]) hc
theorem nbr_lnks {g : Gr} (h : Gw g) {i : Nat} (hi : i < g.nodes.length) : nbr g.edges g.nodes[i].id = true ↔ ∃ j, j < g.nodes.length ∧ lnks g.nodes g.edges i j = true := by
  rw [nbr_iff]
  constructor
  · rintro ⟨e, he, q⟩
    obtain ⟨m1, m2⟩ := gOk_mem h he
    rcases q with ⟨q1, q2⟩ | ⟨q1, q2⟩
    · obtain ⟨j, hj, _, e2⟩ := gOk_pos h m2
      exact ⟨j, hj, (lnks_iff h hi hj).2 ⟨fun e3 => by subst e3; exact q2 e2.symm, e, he, .inl ⟨q1, e2.symm⟩⟩⟩
    · obtain ⟨j, hj, _, e2⟩ := gOk_pos h m1
      exact ⟨j, hj, (lnks_iff h hi hj).2 ⟨fun e3 => by subst e3; exact q2 e2.symm, e, he, .inr ⟨q1, e2.symm⟩⟩⟩
  · rintro ⟨j, hj, hl⟩
    obtain ⟨hne, e, he, q⟩ := (lnks_iff h hi hj).1 hl
    have hids : g.nodes[j].id ≠ g.nodes[i].id := fun q => hne (gOk_inj h hj hi q).symm
    rcases q with ⟨q1, q2⟩ | ⟨q1, q2⟩
    · exact ⟨e, he, .inl ⟨q1, by rw [q2]; exact hids⟩⟩
    · exact ⟨e, he, .inr ⟨q1, by rw [q2]; exact hids⟩⟩
end Go.Proofs.YtaoccbhdlkflfaaGreatDoor
/- The specification's degree of a node. Condition: the table is n times n, nothing is gone. -/
set_option linter.unusedVariables false
set_option linter.unusedSimpArgs false
namespace Go.Proofs.YtaoccbhdlkflfaaGreatDoor
open Go.RowKit Go.Sort

theorem sbool_any (w : World) (b : Bool) : Calls Tryz.prog 50 #[.bool b] w (fun e w' => e = .returned (.int .i64 (if b then 1 else 0)) ∧ w' = w) := by
  cases b <;>
  · go_enter Tryz.func50, Tryz.ntmps50
    go_wp2
    go_ret
    exact ⟨rfl, rfl⟩
theorem sbool_true (w : World) : Calls Tryz.prog 50 #[.bool true] w (fun e w' => e = .returned (.int .i64 1) ∧ w' = w) := sbool_any w true
theorem sbool_false (w : World) : Calls Tryz.prog 50 #[.bool false] w (fun e w' => e = .returned (.int .i64 0) ∧ w' = w) := sbool_any w false
def DegR (n : Nat) (M : Nat → Nat → Bool) (i : Nat) (w : World) (e : Ending) (w' : World) : Prop := ∃ d : Nat, e = .returned (.int .i64 d) ∧ d ≤ n ∧ (0 < d ↔ ∃ j, j < n ∧ M i j = true) ∧ Below w.heap.size w w'
set_option maxHeartbeats 2000000 in
set_option maxRecDepth 100000 in
theorem sdegree_any (w : World) (base n : Nat) (hn : n ≤ 200) (v : Value) (gs : Nat → Nat) (M : Nat → Nat → Bool) (hM : Mx base w v n n gs M) (x : Nat) (hx : x < n) (gG cG : Nat) (hG : ∀ j, j < n → w.cell? ⟨gG, j, none⟩ = some (.bool false)) :
    Calls Tryz.prog 46 #[.agg #[v], .int .i64 x, .slice (some ⟨gG, 0, none⟩) n cG] w (DegR n M x w) := by
  have hn2 : (n : Int) ≤ 200 := by omega
  obtain ⟨gO, cO, rfl, hrow⟩ := hM.rowcell hx
  have hMl := fun u => hM.below (W' := u)
  have hb0 := (Below.refl _ w).alloc (Nat.le_refl _) (.cells #[.slice (some ⟨gO, 0, none⟩) n cO] 48)
  have x0 : (w.alloc (.cells #[.slice (some ⟨gO, 0, none⟩) n cO] 48)).cell? ⟨w.heap.size, 0, none⟩ = some (.slice (some ⟨gO, 0, none⟩) n cO) := by rw [World.cell?_alloc_mark]; rfl
  go_enter Tryz.func46, Tryz.ntmps46
  go_wp2_with fail
  go_loopw [7, 8] (fun dd kk wr => ∃ (k d : Nat), k ≤ n ∧ d ≤ k ∧ kk = .int .i64 k ∧ dd = .int .i64 d ∧ (0 < d ↔ ∃ j, j < k ∧ M x j = true) ∧ Below w.heap.size w wr ∧ wr.cell? ⟨w.heap.size, 0, none⟩ = some (.slice (some ⟨gO, 0, none⟩) n cO)) (fun _ kk wr => n - (intOf kk).toNat)
  case atStart => exact ⟨0, 0, by omega, by omega, rfl, rfl, ⟨fun h => by omega, fun ⟨j, h, _⟩ => by omega⟩, hb0, x0⟩
  case round =>
    clear hb0 x0
    obtain ⟨k, d, hk, hd, rfl, rfl, hiff, hb, q0⟩ := hrel
    by_cases hlt : k < n
    · have f0 : decide ((k : Int) < n) = true := decide_eq_true (by omega)
      have f0' : decide (k < n) = true := decide_eq_true hlt
      have hlt2 : (k : Int) < n := by omega
      have hxn2 : (x : Int) < n := by omega
      have hr1 : wr.cell? ⟨gO, x, none⟩ = some (.slice (some ⟨gs x, 0, none⟩) n n) := cell_kept (fun hl => hb.block gO hl) (hrow x hx)
      have z1 := (hMl wr hb).cell x hx k hlt
      have z3 : wr.cell? ⟨gG, k, none⟩ = some (.bool false) := cell_kept (fun hl => hb.block gG hl) (hG k hlt)
      have hd2 : (d : Int) ≤ 200 := by omega
      cases hm : M x k with
      | false =>
        rw [hm] at z1
        have hN : 0 < d ↔ ∃ j, j < k + 1 ∧ M x j = true := by
          rw [hiff]
          constructor
          · rintro ⟨j, a, b⟩; exact ⟨j, by omega, b⟩
          · rintro ⟨j, a, b⟩
            by_cases e : j = k
            · subst e; rw [hm] at b; cases b
            · exact ⟨j, by omega, b⟩
        clear hiff
        go_wp2_with (go_at_call 50; refine (sbool_false _).mono ?_; rintro e w' ⟨rfl, rfl⟩)
        go_round
        case rel => exact ⟨k + 1, d, by omega, by omega, by go_num, by first | rfl | go_num, hN, hb, q0⟩
        case measure => simp [intOf]; omega
      | true =>
        rw [hm] at z1
        have hN : 0 < d + 1 ↔ ∃ j, j < k + 1 ∧ M x j = true := ⟨fun _ => ⟨k, by omega, hm⟩, fun _ => by omega⟩
        clear hiff
        go_wp2_with (go_at_call 50; refine (sbool_true _).mono ?_; rintro e w' ⟨rfl, rfl⟩)
        go_round
        case rel => exact ⟨k + 1, d + 1, by omega, by omega, by go_num, by go_num, hN, hb, q0⟩
        case measure => simp [intOf]; omega
    · have hk3 : k = n := by omega
      subst hk3
      have f0 : decide ((k : Int) < k) = false := decide_eq_false (by omega)
      go_wp2_with fail
      go_ret
      exact ⟨d, rfl, hd, hiff, hb⟩
end Go.Proofs.YtaoccbhdlkflfaaGreatDoor
