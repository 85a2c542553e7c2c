/- Texts of one proof, joined in their order: each bears its own word of what it holds and on what condition. -/
import Derived.Test.YtllhimeffkefiaaGreatDoorMYd
import Derived.Test.YtllhimeffkefiaaGreatDoorML
import Derived.Test.YtllhimeffkefiaaGreatDoorMFf
import Derived.Test.YtllhimeffkefiaaGreatDoorMP
set_option linter.unusedVariables false
set_option linter.unusedSimpArgs false
/- Colours of a graph's nodes, plain: what a right colouring is. No walk here. -/
set_option linter.unusedVariables false
set_option linter.unusedSimpArgs false
namespace Go.Proofs.YtllhimeffkefiaaGreatDoor

def rsg (l : List Int) : Prop := ∀ i (h : i < l.length), 0 < i → l[i - 1]'(by omega) < l[i]
/-- rising nodes of a graph -/
def NodesP (g : Gr) (l : List Int) : Prop := (∀ x ∈ l, x ∈ idsOf g.nodes) ∧ rsg l
theorem rsg.lt {l : List Int} (h : rsg l) : ∀ {j : Nat} (hj : j < l.length) {i : Nat} (hij : i < j), l[i]'(by omega) < l[j]
  | 0, _, _, hij => by omega
  | j + 1, hj, i, hij => by
    have h1 := h (j + 1) hj (by omega)
    simp only [Nat.add_sub_cancel] at h1
    by_cases e : i = j
    · subst e; exact h1
    · exact Int.lt_trans (rsg.lt h (j := j) (by omega) (i := i) (by omega)) h1
theorem rsg.ne {l : List Int} (h : rsg l) {i j : Nat} (hi : i < l.length) (hj : j < l.length) (hij : i ≠ j) : l[i] ≠ l[j] := by
  rcases Nat.lt_or_gt_of_ne hij with q | q
  · have := h.lt hj q; omega
  · have := h.lt hi q; omega
/-- a right colouring -/
structure ColP (g : Gr) (cs : List Pt) (cnt : Int) (cl : List Int) : Prop where
  ok : gOk g = true
  len : cs.length = g.nodes.length
  nod : NodesP g cl
  few : (cl.length : Int) ≤ cnt
  own : ∀ i (h : i < g.nodes.length) (h2 : i < cs.length), cs[i].node = g.nodes[i].id ∧ 1 ≤ cs[i].num ∧ cs[i].num ≤ cnt
  apart : ∀ i j (hi : i < g.nodes.length) (hj : j < g.nodes.length) (hi2 : i < cs.length) (hj2 : j < cs.length), IsNb g.edges g.nodes[i].id g.nodes[j].id → cs[i].num ≠ cs[j].num
  clq : ∀ a ∈ cl, ∀ b ∈ cl, a ≠ b → IsNb g.edges a b
  used : ∀ k : Int, 1 ≤ k → k ≤ cnt → ∃ p ∈ cs, p.num = k
/-- the numbers from 1 on -/
def upTo (n : Nat) : List Int := (List.range n).map fun i : Nat => (i : Int) + 1
theorem upTo_mem {n : Nat} {k : Int} : k ∈ upTo n ↔ 1 ≤ k ∧ k ≤ n := by
  unfold upTo
  rw [List.mem_map]
  constructor
  · rintro ⟨i, hi, rfl⟩
    rw [List.mem_range] at hi
    omega
  · rintro ⟨h1, h2⟩
    exact ⟨(k - 1).toNat, List.mem_range.2 (by omega), by omega⟩
theorem upTo_nodup (n : Nat) : (upTo n).Nodup := by
  unfold upTo
  rw [List.nodup_iff_pairwise_ne, List.pairwise_map]
  exact (List.nodup_iff_pairwise_ne.1 List.nodup_range).imp fun h e => h (by omega)
/-- as many different numbers from 1 to cnt as cnt: all of them -/
theorem all_used {U : List Int} (hn : U.Nodup) {cnt : Int} (h0 : 0 ≤ cnt) (hU : ∀ x ∈ U, 1 ≤ x ∧ x ≤ cnt) : (U.length : Int) = cnt ↔ ∀ k : Int, 1 ≤ k → k ≤ cnt → k ∈ U := by
  obtain ⟨n, rfl⟩ : ∃ n : Nat, cnt = n := ⟨cnt.toNat, by omega⟩
  have hl : (upTo n).length = n := by unfold upTo; rw [List.length_map, List.length_range]
  have hsub := nodup_le U (upTo n) hn (fun x hx => upTo_mem.2 (hU x hx))
  constructor
  · intro he k h1 h2
    refine Classical.byContradiction fun hk => ?_
    have := nodup_le (k :: U) (upTo n) (List.nodup_cons.2 ⟨hk, hn⟩) (fun x hx => by
      rcases List.mem_cons.1 hx with rfl | hx
      · exact upTo_mem.2 ⟨h1, h2⟩
      · exact upTo_mem.2 (hU x hx))
    rw [List.length_cons] at this
    omega
  · intro ha
    have := nodup_le (upTo n) U (upTo_nodup n) (fun x hx => by
      obtain ⟨a, b⟩ := upTo_mem.1 hx
      exact ha x a b)
    omega
/-- no more colours than nodes -/
theorem ccnt_le {cs : List Pt} {cnt : Int} (h0 : 0 ≤ cnt) (h : ∀ k : Int, 1 ≤ k → k ≤ cnt → ∃ p ∈ cs, p.num = k) : cnt ≤ cs.length := by
  obtain ⟨n, rfl⟩ : ∃ n : Nat, cnt = n := ⟨cnt.toNat, by omega⟩
  have := nodup_le (upTo n) (cs.map Pt.num) (upTo_nodup n) (fun x hx => by
    obtain ⟨a, b⟩ := upTo_mem.1 hx
    obtain ⟨p, hp, rfl⟩ := h x a b
    exact List.mem_map.2 ⟨p, hp, rfl⟩)
  have hl : (upTo n).length = n := by unfold upTo; rw [List.length_map, List.length_range]
  rw [List.length_map] at this
  omega
/-- both answers are one -/
def ColR (g : Gr) (cs : List Pt) (cnt : Int) (cl : List Int) (b : Bool) : Prop := b = true ↔ ColP g cs cnt cl
theorem ColR.same {g : Gr} {cs : List Pt} {cnt : Int} {cl : List Int} {a b : Bool} (h : ColR g cs cnt cl a) (k : ColR g cs cnt cl b) : a = b := by
  cases a <;> cases b <;> simp_all [ColR]
end Go.Proofs.YtllhimeffkefiaaGreatDoor
/- impl's nodesOk and rises. Condition: none on the graph. -/
set_option linter.unusedVariables false
set_option linter.unusedSimpArgs false
namespace Go.Proofs.YtllhimeffkefiaaGreatDoor
open Go.RowKit Go.Sort

def PropB (P : Prop) (w : World) (e : Ending) (w' : World) : Prop := ∃ b : Bool, e = .returned (.bool b) ∧ (b = true ↔ P) ∧ Below w.heap.size w w'
set_option maxHeartbeats 1000000 in
set_option maxRecDepth 100000 in
theorem rises_any (w : World) (S : Nat → Prop) (v : Value) (l : List Int) (h : RInt w S v l) : Calls Tryz.prog 99 #[v] w (PropB (rsg l) w) := by
  obtain ⟨a, c, rfl⟩ := h.shape
  have hl := h.len
  obtain ⟨n, hn⟩ : ∃ n, l.length = n := ⟨_, rfl⟩
  have HN := Lib.hid hn
  rw [hn] at hl h
  rw [hn]
  clear hn
  have hnI : (n : Int) ≤ 9223372036854775807 := by omega
  go_enter Tryz.func99, Tryz.ntmps99
  go_wp2
  go_loopw [3] (fun iv wr => ∃ k : Nat, 1 ≤ k ∧ k ≤ n + 1 ∧ iv = .int .i64 k ∧ Below w.heap.size w wr ∧ ∀ i (hi : i < l.length), 0 < i → i < k → l[i - 1]'(by omega) < l[i]) (fun iv _ => n + 1 - (intOf iv).toNat)
  case atStart => exact ⟨1, by omega, by omega, by first | rfl | go_num, Below.refl _ _, fun i hi h0 h1 => by omega⟩
  case round =>
    obtain ⟨k, hk1, hk, rfl, hb, hI⟩ := hrel
    by_cases hlt : k < n
    · have f0 : decide ((k : Int) < n) = true := decide_eq_true (by omega)
      have f0' : decide (k < n) = true := decide_eq_true hlt
      have f0'' : (k : Int) < n := by omega
      have hkl : k < l.length := by rw [HN.out]; exact hlt
      obtain ⟨j, rfl⟩ : ∃ j, k = j + 1 := ⟨k - 1, by omega⟩
      have hr := h.below EInt.kept hb
      obtain ⟨b, o, e1, -, d0⟩ := RInt.at hr (show j < l.length by omega)
      obtain ⟨b2, o2, e2, -, d1⟩ := RInt.at hr hkl
      rw [e1] at e2
      injection e2 with e2
      injection e2 with e2 e3
      subst e2
      subst e3
      subst e1
      have hstep : l[j] < l[j + 1] → ∀ i (hi : i < l.length), 0 < i → i < j + 1 + 1 → l[i - 1]'(by omega) < l[i] := fun q i hi h0 h1 => by
        by_cases e : i = j + 1
        · subst e; exact q
        · exact hI i hi h0 (by omega)
      have hstop : ¬ l[j] < l[j + 1] → ¬ rsg l := fun q r => q (r (j + 1) hkl (by omega))
      obtain ⟨x, hx⟩ : ∃ x, l[j] = x := ⟨_, rfl⟩
      obtain ⟨y, hy⟩ : ∃ y, l[j + 1] = y := ⟨_, rfl⟩
      rw [hx] at d0 hstep hstop
      rw [hy] at d1 hstep hstop
      have HS := Lib.hid hstep
      have HT := Lib.hid hstop
      have e4 : ((j + 1 : Nat) : Int) - 1 = j := by omega
      have e5 : (j : Int) < n := by omega
      have e6 : (j : Int) + 1 < n := by omega
      have e7 : (j : Int) + 1 - 1 = j := by omega
      have e8 : j < n := by omega
      clear hstep hstop hx hy hI hr
      by_cases hxy : x < y
      · have m0 : decide (y ≤ x) = false := decide_eq_false (by omega)
        go_upto_region 4 with fail
        refine region_ext (by kernel_rfl) (by kernel_rfl) ?_
        have t0 := Ext.cell d0
        have t1 := Ext.cell d1
        repeat (go_big_quiet_step (fail))
        refine wpQuiet_nil ?_
        intro w2 hb2
        clear t0 t1
        go_wp2_with fail
        go_round
        case rel => exact ⟨j + 1 + 1, by omega, by omega, by first | rfl | go_num, hb.trans (hb2.mono hb.size), HS.out hxy⟩
        case measure => first | (simp [intOf]; done) | (simp [intOf]; omega)
      · have m0 : decide (y ≤ x) = true := decide_eq_true (by omega)
        go_upto_region 4 with fail
        refine region_ext (by kernel_rfl) (by kernel_rfl) ?_
        have t0 := Ext.cell d0
        have t1 := Ext.cell d1
        repeat (go_big_quiet_step (fail))
        refine wpQuiet_nil ?_
        intro w2 hb2
        clear t0 t1
        go_wp2_with fail
        go_ret
        exact ⟨false, rfl, ⟨(fun q => by cases q), fun q => absurd q (HT.out hxy)⟩, hb.trans (hb2.mono hb.size)⟩
    · have f0 : decide ((k : Int) < n) = false := decide_eq_false (by omega)
      have f0' : decide (k < n) = false := decide_eq_false hlt
      have f0'' : ¬ (k : Int) < n := by omega
      go_wp2_with fail
      go_ret
      exact ⟨true, rfl, ⟨fun _ i hi h0 => hI i hi h0 (by have := HN.out; omega), fun _ => rfl⟩, hb⟩
set_option maxHeartbeats 1000000 in
set_option maxRecDepth 100000 in
theorem nodesOk_any (w : World) (S S2 : Nat → Prop) (v vl : Value) (g : Gr) (l : List Int) (h : RGr w S v g) (hl : RInt w S2 vl l) : Calls Tryz.prog 75 #[v, vl] w (PropB (NodesP g l) w) := by
  have h0 := h
  obtain ⟨v1, v2, rfl, h1, h2⟩ := h
  obtain ⟨a1, c1, rfl⟩ := h1.shape
  obtain ⟨a2, c2, rfl⟩ := h2.shape
  obtain ⟨al, cl, rfl⟩ := hl.shape
  have hll := hl.len
  obtain ⟨n, hn⟩ : ∃ n, l.length = n := ⟨_, rfl⟩
  have HN := Lib.hid hn
  rw [hn] at hl hll
  rw [hn]
  clear hn h0 h2
  have hnI : (n : Int) ≤ 9223372036854775807 := by omega
  have hnA : ∀ (id : Int) (u : World), RNd u S (.slice a1 g.nodes.length c1) g.nodes → Calls Tryz.prog 61 #[.agg #[.slice a1 g.nodes.length c1, .slice a2 g.edges.length c2], .int .i64 id] u (IntB (posN g.nodes id 0) u) := fun id u r => inodeAt_any u S a1 a2 g.edges.length c1 c2 g.nodes id r
  obtain ⟨n1, hn1⟩ : ∃ n, g.nodes.length = n := ⟨_, rfl⟩
  obtain ⟨n2, hn2⟩ : ∃ n, g.edges.length = n := ⟨_, rfl⟩
  rw [hn1] at h1
  rw [hn1, hn2]
  rw [hn1, hn2] at hnA
  clear hn1 hn2
  have hba := (Below.refl _ w).alloc (Nat.le_refl _) (.cells #[.slice a1 n1 c1, .slice a2 n2 c2] 36)
  have x0 : (w.alloc (.cells #[.slice a1 n1 c1, .slice a2 n2 c2] 36)).cell? ⟨w.heap.size, 0, none⟩ = some (.slice a1 n1 c1) := by rw [World.cell?_alloc_mark]; rfl
  have x1 : (w.alloc (.cells #[.slice a1 n1 c1, .slice a2 n2 c2] 36)).cell? ⟨w.heap.size, 1, none⟩ = some (.slice a2 n2 c2) := by rw [World.cell?_alloc_mark]; rfl
  go_enter Tryz.func75, Tryz.ntmps75
  go_wp2
  generalize w.alloc (.cells #[.slice a1 n1 c1, .slice a2 n2 c2] 36) = W0 at x0 x1 hba ⊢
  go_loopw [6, 9] (fun _ iv wr => ∃ k : Nat, k ≤ n ∧ iv = .int .i64 k ∧ Below W0.heap.size W0 wr ∧ ∀ x ∈ l.take k, x ∈ idsOf g.nodes) (fun _ iv _ => n - (intOf iv).toNat)
  case atStart => exact ⟨0, by omega, rfl, Below.refl _ _, by simp⟩
  case round =>
    obtain ⟨k, hk, rfl, hb, hI⟩ := hrel
    have hbw := hba.trans (hb.mono hba.size)
    have y0 := cell_kept (fun hl => hb.block _ hl) x0
    have y1 := cell_kept (fun hl => hb.block _ hl) x1
    by_cases hlt : k < n
    · have f0 : decide ((k : Int) < n) = true := decide_eq_true (by omega)
      have f0' : decide (k < n) = true := decide_eq_true hlt
      have f0'' : (k : Int) < n := by omega
      have hkl : k < l.length := by rw [HN.out]; exact hlt
      obtain ⟨b, o, rfl, -, d0⟩ := RInt.at (hl.below EInt.kept hbw) hkl
      have hT := take_snoc' l k hkl
      have hm := List.getElem_mem hkl
      obtain ⟨x, hx⟩ : ∃ x, l[k] = x := ⟨_, rfl⟩
      rw [hx] at d0 hT hm
      have hp := posN_thr g.nodes x 0
      have hcall := hnA x wr (h1.below ENd.kept hbw)
      have hin : thr g.nodes x = true ↔ x ∈ idsOf g.nodes := thr_iff
      generalize posN g.nodes x 0 = z at hp hcall
      have HT := Lib.hid hT
      have HM := Lib.hid hm
      have HIN := Lib.hid hin
      clear hx hT hm hin
      cases ht : thr g.nodes x with
      | true =>
        rw [ht] at hp
        have HX := Lib.hid (HIN.out.1 ht)
        simp only [Bool.not_true] at hp
        clear ht
        go_wp2_with (go_at_call 61; refine hcall.mono ?_; rintro e w2 ⟨rfl, hb2⟩)
        go_round
        case rel => exact ⟨k + 1, by omega, by go_num, hb.trans (hb2.mono hb.size), fun y hy => by
          rw [HT.out, List.mem_append, List.mem_singleton] at hy
          rcases hy with hy | rfl
          · exact hI y hy
          · exact HX.out⟩
        case measure => first | (simp [intOf]; done) | (simp [intOf]; omega)
      | false =>
        rw [ht] at hp
        have HX : Hid (¬ NodesP g l) := Lib.hid (fun q => by have := HIN.out.2 (q.1 _ HM.out); rw [ht] at this; cases this)
        simp only [Bool.not_false] at hp
        clear ht
        go_wp2_with (go_at_call 61; refine hcall.mono ?_; rintro e w2 ⟨rfl, hb2⟩)
        go_ret
        exact ⟨false, rfl, ⟨(fun q => by cases q), fun q => absurd q HX.out⟩, hbw.trans (hb2.mono hbw.size)⟩
    · have hk3 : n = k := by omega
      subst hk3
      have f0 : decide ((n : Int) < n) = false := decide_eq_false (by omega)
      rw [List.take_of_length_le (by rw [HN.out]; omega)] at hI
      have HI := Lib.hid hI
      have hri := rises_any wr S2 _ l (hl.below EInt.kept hbw)
      clear hI hlt
      go_wp2_with (go_at_call 99; refine hri.mono ?_; rintro e w2 ⟨b, rfl, hbi, hb2⟩)
      go_ret
      exact ⟨b, rfl, ⟨fun q => ⟨HI.out, hbi.1 q⟩, fun q => hbi.2 q.2⟩, hbw.trans (hb2.mono hbw.size)⟩
end Go.Proofs.YtllhimeffkefiaaGreatDoor
