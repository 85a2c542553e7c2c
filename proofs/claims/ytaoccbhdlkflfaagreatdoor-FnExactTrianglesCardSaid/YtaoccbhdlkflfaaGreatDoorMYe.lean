/- Texts of one proof, joined in their order: each bears its own word of what it holds and on what condition. -/
import Derived.Test.YtaoccbhdlkflfaaGreatDoorMYd
import Derived.Test.YtaoccbhdlkflfaaGreatDoorML
set_option linter.unusedVariables false
set_option linter.unusedSimpArgs false
/- impl's count of the triples of one node. Condition: the map of the neighbours is as neighbours makes it. -/
set_option linter.unusedVariables false
set_option linter.unusedSimpArgs false
namespace Go.Proofs.YtaoccbhdlkflfaaGreatDoor
open Go.RowKit Go.Sort

def cnt1 (L : Int → List Int) (a : Int) (l : List Int) : Nat := (l.filter fun b => decide (a < b) && (L a).contains b).length
def triF (L : Int → List Int) (id : Int) : Nat := ((L id).map fun a => cnt1 L a (L id)).sum
def triS (L : Int → List Int) (id : Int) (i : Nat) : Nat := (((L id).take i).map fun a => cnt1 L a (L id)).sum
theorem triS_succ {L : Int → List Int} {id : Int} {i : Nat} (hi : i < (L id).length) : triS L id (i + 1) = triS L id i + cnt1 L (L id)[i] (L id) := by
  unfold triS
  rw [take_snoc' _ i hi, List.map_append, List.sum_append]
  simp
theorem cnt1_succ {L : Int → List Int} {a : Int} {l : List Int} {j : Nat} (hj : j < l.length) : cnt1 L a (l.take (j + 1)) = cnt1 L a (l.take j) + (if (decide (a < l[j]) && (L a).contains l[j]) = true then 1 else 0) := by
  unfold cnt1
  rw [take_snoc' _ j hj, List.filter_append, List.length_append, List.filter_cons]
  split <;> rfl
theorem cnt1_le (L : Int → List Int) (a : Int) (l : List Int) : cnt1 L a l ≤ l.length := List.length_filter_le _ _
theorem triS_le {L : Int → List Int} {id : Int} (h : (L id).length ≤ 200) : ∀ i, triS L id i ≤ 200 * i
  | 0 => by simp [triS]
  | i + 1 => by
    have := triS_le h i
    by_cases hi : i < (L id).length
    · rw [triS_succ hi]; have := cnt1_le L (L id)[i] (L id); omega
    · unfold triS at *; rw [List.take_of_length_le (by omega)] at *; omega
theorem triS_all (L : Int → List Int) (id : Int) : triS L id (L id).length = triF L id := by unfold triS triF; rw [List.take_length]
set_option maxHeartbeats 2000000 in
set_option maxRecDepth 100000 in
theorem triclo_any (w : World) (cb bm base : Nat) (ks : List Int) (F : Int → Value) (L : Int → List Int) (hN : NbS w bm base ks F L) (hcb : w.cell? ⟨cb, 0, none⟩ = some (.map (some bm))) (id : Int) (hi : I64 id) (hlen : ∀ a, (L a).length ≤ 200) (hI : ∀ a x, x ∈ L a → I64 x) :
    Calls Tryz.prog 52 #[.int .i64 id, .pointer (some ⟨cb, 0, none⟩)] w (fun e w' => e = .returned (.int .i64 (triF L id)) ∧ w = w') := by
  obtain ⟨aa, cc, hF⟩ := hN.shape id
  have hlook := (hN.map.look hi).2
  rw [hF] at hlook
  obtain ⟨n, hn⟩ : ∃ n, (L id).length = n := ⟨_, rfl⟩
  rw [hn] at hF hlook
  have hown := hN.rows.own id
  have hn200 := hlen id
  rw [hn] at hn200
  have hn2 : (n : Int) ≤ 200 := by omega
  have HN := Lib.hid hn
  clear hn
  go_enter Tryz.func52, Tryz.ntmps52
  go_wp2
  go_loopw [4, 6, 8, 13] (fun c _ _ iv wr => ∃ i : Nat, i ≤ n ∧ iv = .int .i64 i ∧ c = .int .i64 (triS L id i) ∧ wr = w) (fun _ _ _ iv _ => n - (intOf iv).toNat)
  case atStart => exact ⟨0, by omega, rfl, rfl, rfl⟩
  case round =>
    obtain ⟨i, hin, rfl, rfl, rfl⟩ := hrel
    by_cases hlt : i < n
    · have f0 : decide ((i : Int) < n) = true := decide_eq_true (by omega)
      have f0' : decide (i < n) = true := decide_eq_true hlt
      have hlt2 : (i : Int) < n := by omega
      have hiL : i < (L id).length := by rw [HN.out]; exact hlt
      obtain ⟨g, c, hFe, _, _, hat, _⟩ := own_at hown (by omega)
      rw [hF, HN.out] at hFe
      injection hFe with e1 _ e3
      subst e1 e3
      have hce : ∀ j (hj : j < (L id).length), wr.cell? ⟨g, j, none⟩ = some (.int .i64 (L id)[j]) := fun j hj => by
        have := hat j (.int .i64 (L id)[j]) (by rw [List.getElem?_map, List.getElem?_eq_getElem hj]; rfl)
        rwa [Nat.zero_add] at this
      have z1 := hce i hiL
      have hS := triS_succ hiL
      have hSl := triS_le (i := i) (hlen id)
      have hca := hI id _ (List.getElem_mem hiL)
      obtain ⟨a, ha⟩ : ∃ a, (L id)[i] = a := ⟨_, rfl⟩
      rw [ha] at z1 hS hca
      obtain ⟨ab, cb2, hFa⟩ := hN.shape a
      have hlooka := (hN.map.look hca).2
      have hcon := fun x => contains_row wr base (F a) (L a) (hN.rows.own a) (Nat.le_trans (hlen a) (by decide)) x
      rw [hFa] at hlooka hcon
      obtain ⟨s, hs⟩ : ∃ s, triS L id i = s := ⟨_, rfl⟩
      rw [hs] at hS hSl
      simp only [hs]
      have HS := Lib.hid hS
      have HCE := Lib.hid hce
      clear ha hS hs hat hce
      go_upto_region 6 with fail
      go_wp2_with fail
      go_loopw [4, 8, 21] (fun c _ jv wr2 => ∃ j : Nat, j ≤ n ∧ jv = .int .i64 j ∧ c = .int .i64 ((s + cnt1 L a ((L id).take j) : Nat) : Int) ∧ wr2 = wr) (fun _ _ jv _ => n - (intOf jv).toNat)
      case atStart => exact ⟨0, by omega, rfl, by rw [show cnt1 L a ((L id).take 0) = 0 from rfl, Nat.add_zero], rfl⟩
      case round =>
        obtain ⟨j, hj, rfl, rfl, rfl⟩ := hrel
        by_cases hlj : j < n
        · have g0 : decide ((j : Int) < n) = true := decide_eq_true (by omega)
          have g0' : decide (j < n) = true := decide_eq_true hlj
          have hlj2 : (j : Int) < n := by omega
          have hjL : j < (L id).length := by rw [HN.out]; exact hlj
          have z2 := HCE.out j hjL
          have hT := cnt1_succ (L := L) (a := a) hjL
          have hcl := cnt1_le L a ((L id).take j)
          rw [List.length_take] at hcl
          obtain ⟨b, hb⟩ : ∃ b, (L id)[j] = b := ⟨_, rfl⟩
          rw [hb] at z2 hT
          clear hb
          obtain ⟨q, hq⟩ : ∃ q, cnt1 L a ((L id).take j) = q := ⟨_, rfl⟩
          rw [hq] at hT hcl
          simp only [hq]
          have hsq : ((s + q : Nat) : Int) ≤ 1000000 := by omega
          clear hq
          by_cases hab : a < b
          · have g1 : decide (a < b) = true := decide_eq_true hab
            rw [g1, Bool.true_and] at hT
            have hcb2 := hcon b
            cases hc : (L a).contains b with
            | true =>
              rw [hc] at hcb2 hT
              rw [if_pos rfl] at hT
              have HT := Lib.hid hT
              clear hc hT hab hcon
              go_wp2_with (go_at_call 53; refine hcb2.mono ?_; rintro e w' ⟨rfl, rfl⟩)
              go_round
              case rel => exact ⟨j + 1, by omega, by go_num, by rw [HT.out]; congr 1 <;> omega, by first | rfl | trivial⟩
              case measure => simp [intOf]; omega
            | false =>
              rw [hc] at hcb2 hT
              rw [if_neg (by decide)] at hT
              have HT := Lib.hid hT
              clear hc hT hab hcon
              go_wp2_with (go_at_call 53; refine hcb2.mono ?_; rintro e w' ⟨rfl, rfl⟩)
              go_round
              case rel => exact ⟨j + 1, by omega, by go_num, by rw [HT.out]; congr 1 <;> omega, by first | rfl | trivial⟩
              case measure => simp [intOf]; omega
          · have g1 : decide (a < b) = false := decide_eq_false hab
            rw [g1, Bool.false_and, if_neg (by decide)] at hT
            have HT := Lib.hid hT
            clear hT hab hcon
            go_wp2_with fail
            go_round
            case rel => exact ⟨j + 1, by omega, by go_num, by rw [HT.out]; congr 1 <;> omega, by first | rfl | trivial⟩
            case measure => simp [intOf]; omega
        · have hj3 : j = n := by omega
          subst hj3
          have g0 : decide ((j : Int) < j) = false := decide_eq_false (by omega)
          have HC : Hid (s + cnt1 L a ((L id).take j) = triS L id (i + 1)) := Lib.hid (by rw [HS.out, List.take_of_length_le (by rw [HN.out]; omega)])
          clear hcon
          go_wp2_with fail
          go_round
          case rel => exact ⟨i + 1, by omega, by go_num, by rw [HC.out], by first | rfl | trivial⟩
          case measure => simp [intOf]; omega
    · have hi3 : i = n := by omega
      subst hi3
      have f0 : decide ((i : Int) < i) = false := decide_eq_false (by omega)
      have HT := Lib.hid (triS_all L id)
      rw [HN.out] at HT
      go_wp2_with fail
      go_ret
      exact ⟨by rw [HT.out]; rfl, rfl⟩
end Go.Proofs.YtaoccbhdlkflfaaGreatDoor
/- impl's Triangles, whole. Condition: the library's variables are as they were laid. -/
set_option linter.unusedVariables false
set_option linter.unusedSimpArgs false
namespace Go.Proofs.YtaoccbhdlkflfaaGreatDoor
open Go.RowKit Go.Sort

set_option maxHeartbeats 1000000 in
set_option maxRecDepth 100000 in
theorem pernode_tri (w : World) (S : Nat → Prop) (v : Value) (g : Gr) (h : RGr w S v g) (hl : g.nodes.length ≤ 200) (cb : Nat) (f : Int → Int) (hclo : ∀ u, Below w.heap.size w u → ∀ x ∈ g.nodes, Calls Tryz.prog 52 #[.int .i64 x.id, .pointer (some ⟨cb, 0, none⟩)] u (fun e w' => e = .returned (.int .i64 (f x.id)) ∧ u = w')) :
    Calls Tryz.prog 35 #[v, .func (.func 52) #[] #[.pointer (some ⟨cb, 0, none⟩)]] w (PtsR (ptsOf g.nodes f) w) := by
  obtain ⟨v1, v2, rfl, h1, h2⟩ := h
  obtain ⟨ns, es⟩ := g
  obtain ⟨a1, c1, rfl⟩ := h1.shape
  obtain ⟨a2, c2, rfl⟩ := h2.shape
  simp only at h1 h2 hl hclo ⊢
  have hl1' : (ns.length : Int) ≤ 200 := by omega
  have hba := (Below.refl _ w).alloc (Nat.le_refl _) (.cells #[.slice a1 ns.length c1, .slice a2 es.length c2] 32)
  have hpl : (ptsOf ns f).length = ns.length := by unfold ptsOf; rw [List.length_map]
  obtain ⟨i0, hi0, hz0, hz1, hz2⟩ := info_parts (show (Tryz.prog.info? 66).map (fun i => (i.zero, i.size, i.bytes)) = some (some (.agg #[.int .i64 0, .int .i64 0]), 2, 16) by kernel_rfl)
  go_enter Tryz.func35, Tryz.ntmps35
  go_wp2
  go_loopw [5, 11] (fun out i wr => ∃ k : Nat, k ≤ ns.length ∧ i = .int .i64 k ∧ Below w.heap.size w wr ∧ wr.ownsRow w.heap.size 66 2 out k (((ptsOf ns f).take k).flatMap cP)) (fun _ i wr => ns.length - (intOf i).toNat)
  case atStart => exact ⟨0, by omega, rfl, hba, World.ownsRow_nil _ _ _ _⟩
  case round =>
    obtain ⟨k, hk, rfl, hb, hown⟩ := hrel
    by_cases hlt : k < ns.length
    · have f0 : decide ((k : Int) < ns.length) = true := decide_eq_true (by omega)
      have f0' : decide (k < ns.length) = true := decide_eq_true hlt
      have hlt2 : (k : Int) < ns.length := by omega
      have hr := h1.below ENd.kept hb
      obtain ⟨b, o, l1, d1, l2, d2, rfl, hS0, hc, hcl, hcf, _, _⟩ := RNd.at hr hlt
      have HT : Hid ((ptsOf ns f).take (k + 1) = (ptsOf ns f).take k ++ [⟨ns[k].id, f ns[k].id⟩]) := Lib.hid (by rw [take_snoc' _ k (by omega)]; simp [ptsOf])
      have hix := fun u hu => hclo u hu _ (List.getElem_mem hlt)
      obtain ⟨xi, hxi⟩ : ∃ xi, ns[k].id = xi := ⟨_, rfl⟩
      obtain ⟨xl, hxl⟩ : ∃ xl, ns[k].labels.length = xl := ⟨_, rfl⟩
      obtain ⟨xf, hxf⟩ : ∃ xf, ns[k].fields.length = xf := ⟨_, rfl⟩
      rw [hxi] at hc HT
      simp only [hxi] at hix
      rw [hxl] at hcl
      rw [hxf] at hcf
      clear hxi hxl hxf
      obtain ⟨y, hy⟩ : ∃ y, f xi = y := ⟨_, rfl⟩
      have hb3 := (Below.refl _ wr).alloc (Nat.le_refl _) (.cells #[.int .i64 xi, .slice l1 xl d1, .slice l2 xf d2] 55)
      have hbW := hb.trans (hb3.mono hb.size)
      have x0 : (wr.alloc (.cells #[.int .i64 xi, .slice l1 xl d1, .slice l2 xf d2] 55)).cell? ⟨wr.heap.size, 0, none⟩ = some (.int .i64 xi) := by rw [World.cell?_alloc_mark]; rfl
      have hoW := hown.alloc (.cells #[.int .i64 xi, .slice l1 xl d1, .slice l2 xf d2] 55)
      have hbx : wr.heap.size < (wr.alloc (.cells #[.int .i64 xi, .slice l1 xl d1, .slice l2 xf d2] 55)).heap.size := by simp
      obtain ⟨bx, hbxe⟩ : ∃ bx, wr.heap.size = bx := ⟨_, rfl⟩
      have hlw : w.heap.size ≤ bx := by rw [← hbxe]; exact hb.size
      have hnb : u5.ownBlock ≠ some bx := fun e => by have := (hown.lt bx e).2; omega
      go_upto_region 5 with fail
      rw [hbxe] at x0 hbx
      generalize wr.alloc (.cells #[.int .i64 xi, .slice l1 xl d1, .slice l2 xf d2] 55) = W at hbW x0 hoW hbx ⊢
      have hcl : Calls Tryz.prog 52 #[.int .i64 xi, .pointer (some ⟨cb, 0, none⟩)] W.drew (fun e w' => e = .returned (.int .i64 y) ∧ W.drew = w') := by
        have hbd : Below w.heap.size w W.drew := hbW.trans ((below_drew W).mono hbW.size)
        rw [← hy]
        exact hix W.drew hbd
      have hzW : w.heap.size ≤ W.heap.size := hbW.size
      have hoD : W.drew.ownsRow w.heap.size 66 2 u5 k (((ptsOf ns f).take k).flatMap cP) := hoW
      go_region_held_law (fun w' : World => w'.cell? ⟨bx, 0, none⟩ = some (.int .i64 xi)) (first | go_keep | exact d0) (first
        | (go_at_call 52; refine hcl.mono ?_; rintro e w' ⟨rfl, rfl⟩)
        | (refine step_append_lies _ (by rfl) (.tmp 15) (.tmp 23) 27 (by rfl) w.heap.size 66 i0 (.agg #[.int .i64 0, .int .i64 0]) 2 16 Tryz.underlying27 hi0 hz0 hz1 hz2 rfl (by decide) u5 k (((ptsOf ns f).take k).flatMap cP) (by rfl) (hoD.alloc _) ⟨_, 0, none⟩ 1 1 [.int .i64 xi, .int .i64 y] (by rfl) rfl (World.news_of_block (new_block (by simp) _ _)) (by intro u hu; simp at hu; rcases hu with rfl | rfl <;> rfl) (by decide) (by unfold maxLen; omega) (by omega) (by simp <;> omega) _ rfl ?_; intro g cap w6 hown6 hgrow6 hat6 hlt6; have hgrow6 : World.grownBy _ w6 u5.ownBlock := hgrow6; have d0 : w6.cell? ⟨bx, 0, none⟩ = some (.int .i64 xi) := ((World.cell?_of_block (a := ⟨bx, 0, none⟩) (hgrow6.block bx (Nat.lt_trans hbx (by simp)) (fun e => hnb e.symm))).trans (cell_kept (fun hl => ((Below.refl _ W.drew).alloc (Nat.le_refl _) _).block bx hl) x0))))
      have hbA : Below w.heap.size w (W.alloc (.cells #[.int .i64 xi, .int .i64 y] 66)).drew := (hbW.alloc hbW.size _).trans ((below_drew _).mono (Nat.le_trans hbW.size (by simp)))
      have hb6 : Below w.heap.size w w6 := ⟨hgrow6.os.trans hbA.os, hgrow6.tape.trans hbA.tape, hgrow6.output.trans hbA.output, Nat.le_trans hbA.size hgrow6.size, fun q hq => (hgrow6.block q (Nat.lt_of_lt_of_le hq hbA.size) (fun e => by have := (hoW.lt q e.symm).1; omega)).trans (hbA.block q hq)⟩
      have hown7 : w6.ownsRow w.heap.size 66 2 (.slice (some ⟨g, 0, none⟩) (k + 1) cap) (k + 1) (((ptsOf ns f).take (k + 1)).flatMap cP) := by
        rw [HT.out, List.flatMap_append, hy]
        exact hown6
      go_wp2_with fail
      go_round
      case rel => exact ⟨k + 1, by omega, by go_num, hb6, hown7⟩
      case measure => simp [intOf]; omega
    · have hk3 : k = ns.length := by omega
      subst hk3
      have f0 : decide ((ns.length : Int) < ns.length) = false := decide_eq_false (by omega)
      rw [List.take_of_length_le (by omega), ← hpl] at hown
      obtain ⟨r1, r2⟩ := own_rpt hown (by omega)
      go_wp2_with fail
      go_ret
      exact ⟨_, rfl, r1, r2, hb⟩

/-- a triple that id is in, told by its two others -/
def Tri (es : List Ed) (id : Int) (p : Int × Int) : Prop := p.1 < p.2 ∧ IsNb es id p.1 ∧ IsNb es id p.2 ∧ IsNb es p.1 p.2
theorem pair_mem {L : Int → List Int} {id : Int} {p : Int × Int} : ∀ {l : List Int}, p ∈ (l.flatMap fun a => ((L id).filter fun b => decide (a < b) && (L a).contains b).map fun b => (a, b)) ↔ p.1 ∈ l ∧ p.2 ∈ L id ∧ p.1 < p.2 ∧ p.2 ∈ L p.1
  | [] => by simp
  | a :: l => by
    rw [List.flatMap_cons, List.mem_append, pair_mem (l := l), List.mem_map, List.mem_cons]
    constructor
    · rintro (⟨b, hb, rfl⟩ | ⟨h1, h2⟩)
      · rw [List.mem_filter, Bool.and_eq_true, decide_eq_true_eq] at hb
        exact ⟨.inl rfl, hb.1, hb.2.1, by simpa using hb.2.2⟩
      · exact ⟨.inr h1, h2⟩
    · rintro ⟨h1 | h1, h2, h3, h4⟩
      · subst h1
        exact .inl ⟨p.2, List.mem_filter.2 ⟨h2, by rw [Bool.and_eq_true, decide_eq_true_eq]; exact ⟨h3, by simpa using h4⟩⟩, rfl⟩
      · exact .inr ⟨h1, h2, h3, h4⟩
theorem pair_nodup {L : Int → List Int} {id : Int} (hn : (L id).Nodup) : ∀ {l : List Int}, l.Nodup → (l.flatMap fun a => ((L id).filter fun b => decide (a < b) && (L a).contains b).map fun b => (a, b)).Nodup
  | [], _ => by simp
  | a :: l, h => by
    rw [List.nodup_cons] at h
    rw [List.flatMap_cons, List.nodup_append]
    refine ⟨?_, pair_nodup hn h.2, fun p hp q hq e => ?_⟩
    · rw [List.nodup_iff_pairwise_ne, List.pairwise_map]
      exact ((List.nodup_iff_pairwise_ne.1 hn).filter _).imp (fun hne e => hne (by injection e))
    · subst e
      obtain ⟨b, _, rfl⟩ := List.mem_map.1 hp
      exact h.1 (pair_mem.1 hq).1
theorem pair_len {L : Int → List Int} {id : Int} : ∀ {l : List Int}, (l.flatMap fun a => ((L id).filter fun b => decide (a < b) && (L a).contains b).map fun b => (a, b)).length = (l.map fun a => cnt1 L a (L id)).sum
  | [] => rfl
  | a :: l => by
    rw [List.flatMap_cons, List.length_append, pair_len (l := l), List.map_cons, List.sum_cons, List.length_map]
    rfl
theorem tri_card {es : List Ed} {L : Int → List Int} (hm : ∀ a x, x ∈ L a ↔ IsNb es a x) (hn : ∀ a, (L a).Nodup) (id : Int) : CardOf (Tri es id) (triF L id) := by
  refine ⟨_, pair_nodup (hn id) (hn id), fun p => ?_, pair_len.symm⟩
  rw [pair_mem, hm, hm, hm]
  unfold Tri
  constructor
  · rintro ⟨a, b, c, d⟩; exact ⟨c, a, b, d⟩
  · rintro ⟨c, a, b, d⟩; exact ⟨a, b, c, d⟩
def TriX (g : Gr) (xs : List Pt) : Prop := (gOk g = false → xs = []) ∧ (gOk g = true → ∃ f : Int → Nat, (∀ id ∈ idsOf g.nodes, CardOf (Tri g.edges id) (f id)) ∧ xs = ptsOf g.nodes (fun id => ((f id : Nat) : Int)))
theorem TriX.same {g : Gr} {xs ys : List Pt} (h : TriX g xs) (k : TriX g ys) : xs = ys := by
  cases hg : gOk g with
  | false => rw [h.1 hg, k.1 hg]
  | true =>
    obtain ⟨f, hf, rfl⟩ := h.2 hg
    obtain ⟨f', hf', rfl⟩ := k.2 hg
    unfold ptsOf
    refine List.map_congr_left (fun x hx => ?_)
    have hid : x.id ∈ idsOf g.nodes := List.mem_map.2 ⟨x, hx, rfl⟩
    have : f x.id = f' x.id := CardOf.same (hf x.id hid) (hf' x.id hid)
    simp only [this]
theorem TriX.len {g : Gr} {xs : List Pt} (h : TriX g xs) : xs.length ≤ 200 := by
  cases hg : gOk g with
  | false => rw [h.1 hg]; simp
  | true =>
    obtain ⟨f, _, rfl⟩ := h.2 hg
    unfold ptsOf
    rw [List.length_map]
    exact (gOk_parts hg).1
def TriR (g : Gr) (w : World) (e : Ending) (w' : World) : Prop := ∃ xs, TriX g xs ∧ PtsR xs w e w'
set_option maxHeartbeats 2000000 in
set_option maxRecDepth 100000 in
theorem tri_any (w : World) (hE : Env w) (S : Nat → Prop) (v : Value) (g : Gr) (h : RGr w S v g) : Calls Tryz.prog 24 #[v] w (TriR g w) := by
  have h0 := h
  obtain ⟨v1, v2, rfl, h1, h2⟩ := h
  obtain ⟨a1, c1, rfl⟩ := h1.shape
  obtain ⟨a2, c2, rfl⟩ := h2.shape
  obtain ⟨n1, hn1⟩ : ∃ n, g.nodes.length = n := ⟨_, rfl⟩
  obtain ⟨n2, hn2⟩ : ∃ n, g.edges.length = n := ⟨_, rfl⟩
  have HN1 := Lib.hid hn1
  rw [hn1, hn2] at h0
  rw [hn1, hn2]
  clear h1 h2 hn1 hn2
  have hba := (Below.refl _ w).alloc (Nat.le_refl _) (.cells #[.slice a1 n1 c1, .slice a2 n2 c2] 32)
  have r1 := h0.below hba
  have hE1 := hE.below hba
  have x0 : (w.alloc (.cells #[.slice a1 n1 c1, .slice a2 n2 c2] 32)).cell? ⟨w.heap.size, 0, none⟩ = some (.slice a1 n1 c1) := by rw [World.cell?_alloc_mark]; rfl
  have x1 : (w.alloc (.cells #[.slice a1 n1 c1, .slice a2 n2 c2] 32)).cell? ⟨w.heap.size, 1, none⟩ = some (.slice a2 n2 c2) := by rw [World.cell?_alloc_mark]; rfl
  cases hg : gOk g with
  | false =>
    go_enter Tryz.func24, Tryz.ntmps24
    go_wp2_with (go_at_call 33; refine (graphOk_is _ hE1 _ _ _ _ hg r1).mono ?_; rintro e w1 ⟨rfl, hb1⟩)
    go_ret
    exact ⟨[], ⟨(fun _ => rfl), (fun h => by rw [hg] at h; cases h)⟩, PtsR.nil _ _ _ _ (hba.trans (hb1.mono hba.size))⟩
  | true =>
    have hw := gw_of hg
    have hids : ∀ x ∈ g.nodes, I64 x.id := fun x hx => id_I64 (gOk_id hg (List.mem_map.2 ⟨x, hx, rfl⟩))
    have hlen := (gOk_parts hg).1
    go_enter Tryz.func24, Tryz.ntmps24
    go_upto_region 4 with (first
      | (go_at_call 33; refine (graphOk_is _ hE1 _ _ _ _ hg r1).mono ?_; rintro e w1 ⟨rfl, hb1⟩; have r2 := r1.below hb1; have y0 := cell_kept (fun hl => hb1.block _ hl) x0; have y1 := cell_kept (fun hl => hb1.block _ hl) x1)
      | (go_at_call 51; refine (neighbours_any _ S _ g r2 hw).mono ?_; rintro e w2 ⟨bm, base, F, L, rfl, hN, hLm, hLn, hbm, hb2⟩))
    have hb3 := (Below.refl _ w2).alloc (Nat.le_refl _) (.cells #[.map (some bm)] 82)
    have hb23 := hb2.trans (hb3.mono hb2.size)
    have r3 := r2.below hb23
    have hN3 := hN.below hb3
    have z0 := cell_kept (fun hl => hb23.block _ hl) y0
    have z1 := cell_kept (fun hl => hb23.block _ hl) y1
    have zc : (w2.alloc (.cells #[.map (some bm)] 82)).cell? ⟨w2.heap.size, 0, none⟩ = some (.map (some bm)) := by rw [World.cell?_alloc_mark]; rfl
    have hbA : Below w.heap.size w (w2.alloc (.cells #[.map (some bm)] 82)) := (hba.trans (hb1.mono hba.size)).trans (hb23.mono (Nat.le_trans hba.size hb1.size))
    have hLl : ∀ a, (L a).length ≤ 200 := fun a => nb_len hw (fun e he => he) (hLn a) (fun x hx => (hLm a x).1 hx)
    have hLI : ∀ a x, x ∈ L a → I64 x := fun a x hx => by
      obtain ⟨e, he, _, q⟩ := (hLm a x).1 hx
      obtain ⟨m1, m2⟩ := gOk_mem hw he
      rcases q with ⟨_, rfl⟩ | ⟨_, rfl⟩
      · exact id_I64 (gOk_id hg m2)
      · exact id_I64 (gOk_id hg m1)
    generalize w2.alloc (.cells #[.map (some bm)] 82) = W at r3 hN3 z0 z1 zc hbA ⊢
    have hper := pernode_tri W S _ g r3 hlen w2.heap.size (fun id => ((triF L id : Nat) : Int)) (fun u hu x hx => triclo_any u w2.heap.size bm base _ F L (hN3.below hu) (cell_kept (fun hl => hu.block _ hl) zc) x.id (hids x hx) hLl hLI)
    go_wp2_with (go_at_call 35; refine hper.mono ?_; rintro e w4 ⟨vv, rfl, q1, q2, hb4⟩)
    go_ret
    exact ⟨_, ⟨(fun h => by rw [hg] at h; cases h), (fun _ => ⟨triF L, fun id _ => tri_card hLm hLn id, rfl⟩)⟩, vv, rfl, q1.mono EPt.mono (fun b hb => Nat.le_trans hbA.size hb), Own.low q2 hbA.size, hbA.trans (hb4.mono hbA.size)⟩
end Go.Proofs.YtaoccbhdlkflfaaGreatDoor
