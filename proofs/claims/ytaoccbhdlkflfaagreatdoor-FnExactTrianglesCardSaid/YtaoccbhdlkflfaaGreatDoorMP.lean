/- Texts of one proof, joined in their order: each bears its own word of what it holds and on what condition. -/
import Derived.Test.YtaoccbhdlkflfaaGreatDoorMN
import Derived.Test.YtaoccbhdlkflfaaGreatDoorMJ
import Derived.Deep.RegionLaw
import Derived.Shelf.RegionOpenPlain
import Derived.Lib.SliceRun
import Derived.Test.YtaoccbhdlkflfaaGreatDoorML
set_option linter.unusedVariables false
set_option linter.unusedSimpArgs false
/- slices.Clone of edges and of nodes; slices.Delete of one edge. Condition: fewer than 2^20 elements; what is cut lies in a row of the caller's own. -/
set_option linter.unusedVariables false
set_option linter.unusedSimpArgs false
namespace Go.Proofs.YtaoccbhdlkflfaaGreatDoor
open Go.RowKit Go.Sort

theorem setCells_sets (g : Nat) : ∀ (us : List Value) (o : Nat) (w : World), w.setCells g o us = sets w g o us
  | [], _, _ => rfl
  | u :: us, o, w => setCells_sets g us (o + 1) _
theorem run_clear_one {P : Program} (w : World) (t e ty : TypeId) (z : Value) (zs : Array Value) (ht : P.underlying t = some (.slice e)) (hv : ∀ w, (zeroValue e).run P w = .ok z w) (hz : z.cells = zs) (h1 : ∀ u ∈ zs.toList, u.oneCell' = true) (b o c : Nat)
    (hc : ∀ j, j < zs.toList.length → (w.cell? ⟨b, o + j, none⟩).isSome = true) (hf : ∀ j, j < zs.toList.length → w.frozen? ⟨b, o + j, none⟩ = false) :
    (Builtin.clear_ #[t] ty #[.slice (some ⟨b, o, none⟩) 1 c]).run P w = .ok (.tuple #[]) (w.setCells b o zs.toList) := by
  subst hz
  have hzc : (Builtin.zeroCells z.cells 1).toList = z.cells.toList := by
    apply List.ext_getElem
    · simp [Builtin.zeroCells]
    · intro i h1 h2
      have h3 : i < z.cells.size := by simpa using h2
      simp [Builtin.zeroCells, Nat.mod_eq_of_lt h3, getElem!_pos z.cells i h3]
  have hst := run_storeCells_cells (P := P) b o z.cells.toList 0 w (by simpa using hc) (by simpa using hf) h1
  simp only [Nat.add_zero] at hst
  simp [Builtin.clear_, run_underlying ht, hv, hzc, hst]
set_option maxHeartbeats 1000000 in
set_option maxRecDepth 100000 in
theorem cloneEd_any (w : World) (b off n c : Nat) (news : List Value) (hl : news.length = n * 5) (hn : n ≤ 1048576) (hc : At w b off news) (h1 : ∀ u ∈ news, u.oneCell' = true) :
    Calls Tryz.prog 45 #[.slice (some ⟨b, off, none⟩) n c] w (fun e w' => ∃ v', e = .returned v' ∧ w'.ownsRow w.heap.size 73 5 v' n news ∧ Below w.heap.size w w') := by
  obtain ⟨i0, hi0, hz0, hz1, hz2⟩ := info_parts (show (Tryz.prog.info? 73).map (fun i => (i.zero, i.size, i.bytes)) = some (some (.agg #[.int .i64 0, .string ByteArray.empty, .int .i64 0, .int .i64 0, .slice none 0 0]), 5, 64) by kernel_rfl)
  have HC := Lib.hid hc
  have q30 : ∀ (w : World) (a : Option Addr) (n c n' c' : Nat), (binOp .eql 30 (.slice a n c) (.slice none n' c')).run Tryz.prog w = .ok (.bool a.isNone) w := fun w a n c n' c' => Lib.run_eql_slice_nil w _ _ a n c n' c' Tryz.underlying30
  clear hc
  go_enter Tryz.func45, Tryz.ntmps45
  go_wp2_with (at_builtin; refine wpList_append_own _ rfl _ _ 30 rfl w.heap.size 73 i0 _ 5 64 Tryz.underlying30 hi0 hz0 hz1 hz2 (by decide) (by decide) _ _ _ rfl (World.ownsRow_made w #[] 0 (Nat.le_refl _) (Nat.zero_le _) (by simp)) ⟨b, off, none⟩ n c news rfl hl (fun j u hj => by rw [Addr.add_lit]; exact Lib.cell?_alloc_some _ (HC.out j u hj)) h1 (by unfold maxLen; omega) (by omega) (by simp) ?_; intro v' w1 hown hgrow hnil; have hgrow : World.grownBy _ w1 (some w.heap.size) := hgrow)
  go_ret
  refine ⟨v', rfl, by simpa using hown, ?_⟩
  exact ((Below.refl _ w).alloc (Nat.le_refl _) _).grown hgrow (by simp) (by intro k hk; injection hk; omega)
set_option maxHeartbeats 1000000 in
set_option maxRecDepth 100000 in
theorem cloneNd_any (w : World) (b off n c : Nat) (news : List Value) (hl : news.length = n * 3) (hn : n ≤ 1048576) (hc : At w b off news) (h1 : ∀ u ∈ news, u.oneCell' = true) :
    Calls Tryz.prog 48 #[.slice (some ⟨b, off, none⟩) n c] w (fun e w' => ∃ v', e = .returned v' ∧ w'.ownsRow w.heap.size 55 3 v' n news ∧ Below w.heap.size w w') := by
  obtain ⟨i0, hi0, hz0, hz1, hz2⟩ := info_parts (show (Tryz.prog.info? 55).map (fun i => (i.zero, i.size, i.bytes)) = some (some (.agg #[.int .i64 0, .slice none 0 0, .slice none 0 0]), 3, 56) by kernel_rfl)
  have HC := Lib.hid hc
  have q30 : ∀ (w : World) (a : Option Addr) (n c n' c' : Nat), (binOp .eql 29 (.slice a n c) (.slice none n' c')).run Tryz.prog w = .ok (.bool a.isNone) w := fun w a n c n' c' => Lib.run_eql_slice_nil w _ _ a n c n' c' Tryz.underlying29
  clear hc
  go_enter Tryz.func48, Tryz.ntmps48
  go_wp2_with (at_builtin; refine wpList_append_own _ rfl _ _ 29 rfl w.heap.size 55 i0 _ 3 56 Tryz.underlying29 hi0 hz0 hz1 hz2 (by decide) (by decide) _ _ _ rfl (World.ownsRow_made w #[] 0 (Nat.le_refl _) (Nat.zero_le _) (by simp)) ⟨b, off, none⟩ n c news rfl hl (fun j u hj => by rw [Addr.add_lit]; exact Lib.cell?_alloc_some _ (HC.out j u hj)) h1 (by unfold maxLen; omega) (by omega) (by simp) ?_; intro v' w1 hown hgrow hnil; have hgrow : World.grownBy _ w1 (some w.heap.size) := hgrow)
  go_ret
  refine ⟨v', rfl, by simpa using hown, ?_⟩
  exact ((Below.refl _ w).alloc (Nat.le_refl _) _).grown hgrow (by simp) (by intro k hk; injection hk; omega)
set_option maxHeartbeats 2000000 in
set_option maxRecDepth 100000 in
/-- the row g, m + 1 elements, without that at i -/
theorem deleteEd_any (w : World) (g m cap i : Nat) (news : List Value) (hl : news.length = (m + 1) * 5) (hn : m + 1 ≤ 1048576) (hi : i ≤ m) (hcap : m + 1 ≤ cap) (hm : cap ≤ maxLen) (hc : At w g 0 news) (h1 : ∀ u ∈ news, u.oneCell' = true) (hf : ∀ o, w.frozen? ⟨g, o, none⟩ = false) :
    Calls Tryz.prog 44 #[.slice (some ⟨g, 0, none⟩) (m + 1) cap, .int .i64 i, .int .i64 ((i : Int) + 1)] w (fun e w' => e = .returned (.slice (some ⟨g, 0, none⟩) m cap) ∧ At w' g 0 (news.take (i * 5) ++ news.drop ((i + 1) * 5)) ∧ w.grownBy w' (some g)) := by
  obtain ⟨i0, hi0, hz0, hz1, hz2⟩ := info_parts (show (Tryz.prog.info? 73).map (fun i => (i.zero, i.size, i.bytes)) = some (some (.agg #[.int .i64 0, .string ByteArray.empty, .int .i64 0, .int .i64 0, .slice none 0 0]), 5, 64) by kernel_rfl)
  have hv : ∀ w, (zeroValue 73).run Tryz.prog w = .ok (.agg #[.int .i64 0, .string ByteArray.empty, .int .i64 0, .int .i64 0, .slice none 0 0]) w := fun w => by kernel_rfl
  have hm' : cap ≤ 9223372036854775807 := by unfold maxLen at hm; omega
  have hgl : g < w.heap.size := by
    have h0 : 0 < news.length := by omega
    exact lt_of_cell (hc 0 _ (List.getElem?_eq_getElem h0))
  have HC := Lib.hid hc
  have HF := Lib.hid hf
  clear hc hf
  obtain ⟨dr, hdr⟩ : ∃ dr, dr = news.drop ((i + 1) * 5) := ⟨_, rfl⟩
  have hdl : dr.length = (m - i) * 5 := by rw [hdr, List.length_drop, hl]; omega
  have s1 : Hid (dr.length = (m - i) * 5) := Lib.hid hdl
  obtain ⟨A, hA, hsrc⟩ : ∃ A : Addr, (if cap = i + 1 then (some ⟨g, 0, none⟩ : Option Addr) else some ⟨g, (i + 1) * 5, none⟩) = some A ∧ Hid (∀ t u, dr[t]? = some u → w.drew.cell? (A.add t) = some u) := by
    by_cases h : cap = i + 1
    · refine ⟨⟨g, 0, none⟩, by simp [h], Lib.hid fun t u hu => ?_⟩
      have h0 : dr.length = 0 := by rw [hdl]; omega
      rw [List.length_eq_zero_iff.1 h0] at hu
      simp at hu
    · refine ⟨⟨g, (i + 1) * 5, none⟩, by simp [h], Lib.hid fun t u hu => ?_⟩
      rw [hdr, List.getElem?_drop] at hu
      have := HC.out _ _ hu
      rw [Addr.add_lit]
      rw [Nat.zero_add] at this
      exact this
  have s2 : Hid (∀ u ∈ dr, u.oneCell' = true) := Lib.hid fun u hu => h1 u (by rw [hdr] at hu; exact List.mem_of_mem_drop hu)
  have hcell : ∀ t, t < (m + 1) * 5 → ∃ u, w.cell? ⟨g, t, none⟩ = some u := fun t ht => by
    have := HC.out t _ (List.getElem?_eq_getElem (by omega))
    rw [Nat.zero_add] at this
    exact ⟨_, this⟩
  have s3 : Hid (∀ t, t < dr.length → (w.drew.cell? ⟨g, 0 + i * 5 + t, none⟩).isSome = true ∧ w.drew.frozen? ⟨g, 0 + i * 5 + t, none⟩ = false) := Lib.hid fun t ht => by
    refine ⟨?_, HF.out _⟩
    obtain ⟨u, hu⟩ := hcell (0 + i * 5 + t) (by omega)
    show (w.cell? _).isSome = true
    rw [hu]; rfl
  obtain ⟨W1, hW1⟩ : ∃ W1, W1 = w.drew.setCells g (0 + i * 5) dr := ⟨_, rfl⟩
  have HW := Lib.hid hW1
  have hcl : ∀ ty, (Builtin.clear_ #[30] ty #[.slice (some ⟨g, m * 5, none⟩) 1 (cap - m)]).run Tryz.prog W1 = .ok (.tuple #[]) (W1.setCells g (m * 5) [.int .i64 0, .string ByteArray.empty, .int .i64 0, .int .i64 0, .slice none 0 0]) := fun ty =>
    run_clear_one W1 _ _ ty _ #[.int .i64 0, .string ByteArray.empty, .int .i64 0, .int .i64 0, .slice none 0 0] Tryz.underlying30 hv rfl (by intro u hu; simp at hu; rcases hu with rfl | rfl | rfl | rfl | rfl <;> rfl) g (m * 5) _ (fun j hj => by
      have hj5 : j < 5 := hj
      rw [hW1, World.cell?_setCells_out g _ _ _ _ (fun _ _ => .inr (by show 0 + i * 5 + dr.length ≤ m * 5 + j; omega))]
      obtain ⟨u, hu⟩ := hcell (m * 5 + j) (by omega)
      show (w.cell? _).isSome = true
      rw [hu]; rfl) (fun j hj => by rw [hW1, World.frozen?_setCells]; exact HF.out _)
  have hfin : At (W1.setCells g (m * 5) [.int .i64 0, .string ByteArray.empty, .int .i64 0, .int .i64 0, .slice none 0 0]) g 0 (news.take (i * 5) ++ dr) := fun j u hu => by
    have hjl := (List.getElem?_eq_some_iff.1 hu).1
    rw [List.length_append, List.length_take, hdl, hl] at hjl
    rw [Nat.zero_add, World.cell?_setCells_out g _ _ _ _ (fun _ _ => .inl (by show j < m * 5; omega))]
    by_cases hji : j < i * 5
    · rw [hW1, World.cell?_setCells_out g _ _ _ _ (fun _ _ => .inl (by show j < 0 + i * 5; omega))]
      rw [List.getElem?_append_left (by rw [List.length_take]; omega), List.getElem?_take, if_pos hji] at hu
      have := HC.out j u hu
      rw [Nat.zero_add] at this
      exact this
    · rw [List.getElem?_append_right (by rw [List.length_take]; omega), List.length_take] at hu
      have hin := World.cell?_setCells_in g dr (0 + i * 5) w.drew (fun t ht => (s3.out t ht).1) (j - i * 5) (by omega)
      have e1 : 0 + i * 5 + (j - i * 5) = j := by omega
      have e2 : min (i * 5) news.length = i * 5 := by omega
      rw [e1] at hin
      rw [e2, List.getElem?_eq_getElem (by omega)] at hu
      rw [hW1, hin]
      exact hu
  have hgr : w.grownBy (W1.setCells g (m * 5) [.int .i64 0, .string ByteArray.empty, .int .i64 0, .int .i64 0, .slice none 0 0]) (some g) := by
    rw [hW1, setCells_sets, setCells_sets]
    have b1 := sets_below (B := 0) (g := g) (a := w) (Nat.zero_le _) dr (0 + i * 5) w.drew ⟨rfl, rfl, rfl, Nat.le_refl _, fun _ _ => rfl⟩
    have b2 := sets_below (B := 0) (g := g) (a := w) (Nat.zero_le _) [.int .i64 0, .string ByteArray.empty, .int .i64 0, .int .i64 0, .slice none 0 0] (m * 5) _ b1
    exact ⟨b2.os, b2.tape, b2.output, b2.size, fun b hb hne => by
      have hbg : b ≠ g := fun e => hne (by rw [e])
      rw [sets_heap g _ _ _ b hbg, sets_heap g _ _ _ b hbg]
      rfl⟩
  have hi3 : i + (m - i) = m := by omega
  have HFI := Lib.hid hfin
  have HGR := Lib.hid hgr
  rw [← hdr]
  clear hdl hcell hfin hgr hgl hv hW1
  have f0 : ((i : Int) == (i : Int) + 1) = false := by simp; omega
  have hi2 : (i : Int) < ((m + 1 : Nat) : Int) := by omega
  have hn2 : ((m + 1 : Nat) : Int) ≤ 1048576 := by omega
  have hc2 : ((m + 1 : Nat) : Int) ≤ cap := by omega
  have hc3 : (cap : Int) ≤ 9223372036854775807 := by omega
  have hic : i ≤ cap := by omega
  have hjc : i + 1 ≤ cap := by omega
  have hic2 : (i : Int) ≤ cap := by omega
  have hjc2 : (i : Int) + 1 ≤ cap := by omega
  have hjn2 : (i : Int) + 1 ≤ ((m + 1 : Nat) : Int) := by omega
  have hjn : i + 1 ≤ m + 1 := by omega
  have hj0 : (0 : Int) ≤ (i : Int) + 1 := by omega
  have hcm : m ≤ cap := by omega
  have hcm2 : (m : Int) ≤ cap := by omega
  have hcm3 : (m : Int) ≤ ((m + 1 : Nat) : Int) := by omega
  have hcm4 : ¬ cap = m := by omega
  have hsub : m + 1 - (i + 1) = m - i := by omega
  go_enter Tryz.func44, Tryz.ntmps44
  go_upto_region 5 with fail
  go_region_law (refine step_append_room rfl (.tmp 22) (.tmp 25) 30 rfl 73 i0 5 Tryz.underlying30 hi0 hz1 g 0 i cap (by simp [Act.eval, Act.put]) A (m - i) (cap - (i + 1)) dr (by simp [Act.eval, Act.put]) s1.out hsrc.out s2.out (by omega) s3.out ?_; rw [← HW.out, hi3])
  go_wp2
  go_ret
  exact ⟨rfl, HFI.out, HGR.out⟩
end Go.Proofs.YtaoccbhdlkflfaaGreatDoor
/- Rows of int64 as a result: the laws' comparison, marks and second look. Condition: fewer than 10^6 of them. -/
set_option linter.unusedVariables false
set_option linter.unusedSimpArgs false
namespace Go.Proofs.YtaoccbhdlkflfaaGreatDoor
open Go.RowKit Go.Sort

def EInt : Elem Int := fun _ _ f x => f 0 = .int .i64 x
abbrev RInt := Row 1 EInt
theorem EInt.kept : EInt.Kept := fun _ _ _ _ _ _ h => h
theorem EInt.mono : EInt.Mono := fun _ _ _ _ _ _ h => h
theorem RInt.at {w : World} {S : Nat → Prop} {a : Option Addr} {n c : Nat} {xs : List Int} (h : RInt w S (.slice a n c) xs) {k : Nat} (hk : k < xs.length) :
    ∃ b o, a = some ⟨b, o, none⟩ ∧ S b ∧ w.cell? ⟨b, o + k, none⟩ = some (.int .i64 xs[k]) := by
  obtain ⟨b, o, f, ha, hS, hc, h0⟩ := h.get hk
  have c0 := hc 0 (by decide)
  rw [Nat.mul_one, Nat.add_zero, h0] at c0
  exact ⟨b, o, ha, hS, c0⟩
theorem own_rint {w : World} {base : Nat} {v : Value} {xs : List Int} (h : w.ownsRow base 2 1 v xs.length (xs.map (Value.int .i64))) (hl : xs.length ≤ 9223372036854775807) : RInt w (fun b => base ≤ b) v xs ∧ Own 1 w base v xs.length := by
  rcases h.2 with ⟨rfl, hn⟩ | ⟨g, cap, cur, rfl, hb, hgg, hc, hm, hs, ht⟩
  · have : xs = [] := List.length_eq_zero_iff.1 hn
    subst this
    exact ⟨nilRow _ _ _ _, none, 0, rfl, .inl rfl⟩
  · have hat : ∀ i x, xs[i]? = some x → w.cell? ⟨g, i, none⟩ = some (.int .i64 x) := fun i x hu => by
      have hi : i < xs.length := (List.getElem?_eq_some_iff.1 hu).1
      have e : (cur.toList.take (xs.length * 1))[i]? = some (.int .i64 x) := by rw [ht, List.getElem?_map, hu]; rfl
      rw [List.getElem?_take, if_pos (by omega)] at e
      have := World.news_of_block hgg i _ e
      rw [Addr.add_lit] at this
      rw [show i = 0 + i by omega]
      exact this
    refine ⟨⟨_, cap, rfl, hl, fun k x hx => ⟨g, 0, fun _ => .int .i64 x, rfl, hb, fun j hj => ?_, rfl⟩⟩, _, cap, rfl, .inr ⟨g, rfl, hb, (Array.getElem?_eq_some_iff.1 hgg).1, fun i hi => ?_, fun i => h.frozenAt i⟩⟩
    · rw [show 0 + k * 1 + j = k by omega]; exact hat k x hx
    · exact ⟨_, hat i _ (List.getElem?_eq_getElem (by omega))⟩

set_option maxHeartbeats 1000000 in
set_option maxRecDepth 100000 in
theorem eqInt64S_any (w : World) (S S' : Nat → Prop) (v v' : Value) (ss : List Int) (h : RInt w S v ss) (h' : RInt w S' v' ss) : Calls Tryz.prog 18 #[v, v'] w (Tru w) := by
  obtain ⟨a, c, rfl⟩ := h.shape
  obtain ⟨a', c', rfl⟩ := h'.shape
  have hl := h.len
  go_enter Tryz.func18, Tryz.ntmps18
  go_wp2
  go_loopw [5] (fun i wr => ∃ k : Nat, k ≤ ss.length ∧ i = .int .i64 k ∧ Below w.heap.size w wr) (fun i _ => ss.length - (intOf i).toNat)
  case atStart => exact ⟨0, by omega, rfl, Below.refl _ _⟩
  case round =>
    obtain ⟨k, hk, rfl, hnx⟩ := hrel
    by_cases hlt : k < ss.length
    · obtain ⟨b, o, rfl, -, d0⟩ := RInt.at (h.below EInt.kept hnx) hlt
      obtain ⟨b', o', rfl, -, d0'⟩ := RInt.at (h'.below EInt.kept hnx) hlt
      have f0 : decide ((k : Int) < ss.length) = true := decide_eq_true (by omega)
      have f0' : decide (k < ss.length) = true := decide_eq_true hlt
      have hlt2 : (k : Int) < ss.length := by omega
      obtain ⟨x, hx⟩ : ∃ x, ss[k] = x := ⟨_, rfl⟩
      rw [hx] at d0 d0'
      have f1 : (x != x) = false := by simp
      clear hx
      go_wp2
      go_big_quiet (fail)

      go_wp2
      go_roundw
      case rel => exact ⟨k + 1, by omega, by go_num, hnx.trans ((drewN_below wr nq).mono hnx.size)⟩
      case measure => simp [intOf]; omega
    · obtain rfl : k = ss.length := by omega
      go_wp2
      go_ret
      exact ⟨rfl, hnx⟩

set_option maxHeartbeats 1000000 in
set_option maxRecDepth 100000 in
theorem markInt64S_any (w : World) (B : Nat) (v : Value) (n : Nat) (h : Own 1 w B v n) (hl : n ≤ 1000000) : Calls Tryz.prog 19 #[v, .int .i64 1] w (NumsMade 1 v n (1 + n) w) := by
  obtain ⟨a, c, rfl, h⟩ := h
  go_enter Tryz.func19, Tryz.ntmps19
  go_wp2
  go_loopw [1, 5] (fun q i wr => ∃ k : Nat, k ≤ n ∧ i = .int .i64 k ∧ q = .int .i64 ((1 + k : Nat) : Int) ∧ But (.slice a n c) w wr ∧ (∀ g, a = some ⟨g, 0, none⟩ → 0 < n → Nums' 1 wr g k n)) (fun _ i _ => n - (intOf i).toNat)
  case atStart =>
    refine ⟨0, by omega, rfl, rfl, ⟨rfl, rfl, rfl, Nat.le_refl _, fun _ _ _ => rfl⟩, fun g hg hn => ?_⟩
    rcases h with h | ⟨g', ha, _, _, hc, hf⟩
    · omega
    · rw [ha] at hg
      cases hg
      exact ⟨fun i hi => by omega, hc, hf⟩
  case round =>
    obtain ⟨k, hk, rfl, rfl, hnx, hw⟩ := hrel
    by_cases hlt : k < n
    · rcases h with h | ⟨g, rfl, hB, hg, -, -⟩
      · omega
      have hN := hw g rfl (by omega)
      obtain ⟨x0, e0⟩ := hN.2.1 (k * 1) (by omega)
      rw [Nat.mul_one] at e0
      have f0 := hN.2.2 k
      clear hw
      go_wp2
      go_roundw
      case rel =>
        have hr : Nums' 1 (sets wr g (k * 1) [.int .i64 (1 + (k : Int))]) g (k + 1) n := hN.step hlt (us := [.int .i64 (1 + (k : Int))]) rfl (fun j hj => by
          obtain rfl : j = 0 := by omega
          show Value.int .i64 _ = _; congr 1; omega)
        have hq := hnx.sets (g := g) rfl (k * 1) [.int .i64 (1 + (k : Int))]
        rw [Nat.mul_one] at hr hq
        refine ⟨k + 1, by omega, by go_num, by congr 1 <;> omega, hq, fun g1 hg1 _ => ?_⟩
        cases hg1
        exact hr
      case measure => simp [intOf]; omega
    · obtain rfl : k = n := by omega
      go_wp2
      go_ret
      refine ⟨rfl, ⟨a, c, rfl, ?_⟩, hnx⟩
      rcases h with h | ⟨g, ha, _⟩
      · exact .inl h
      · by_cases h0 : k = 0
        · exact .inl h0
        · exact .inr ⟨g, ha, (hw g ha (by omega)).1⟩

set_option maxHeartbeats 1000000 in
set_option maxRecDepth 100000 in
theorem heldInt64S_any (w : World) (v : Value) (n : Nat) (h : Nums 1 w v n) (hl : n ≤ 1000000) : Calls Tryz.prog 20 #[v, .int .i64 1] w (NumsSeen (1 + n) w) := by
  obtain ⟨a, c, rfl, h⟩ := h
  go_enter Tryz.func20, Tryz.ntmps20
  go_wp2
  go_loop [1, 5] (fun q i => ∃ k : Nat, k ≤ n ∧ i = .int .i64 k ∧ q = .int .i64 ((1 + k : Nat) : Int)) (fun _ i => n - (intOf i).toNat)
  case atStart => exact ⟨0, by omega, rfl, rfl⟩
  case round =>
    obtain ⟨k, hk, rfl, rfl⟩ := hrel
    by_cases hlt : k < n
    · rcases h with h | ⟨g, rfl, hc⟩
      · omega
      have e0 := hc k (by omega)
      rw [show ((1 + k : Nat) : Int) = 1 + (k : Int) by omega] at e0
      clear hc
      go_wp2
      go_round
      case rel => exact ⟨k + 1, by omega, by go_num, by congr 1 <;> omega⟩
      case measure => simp [intOf]; omega
    · obtain rfl : k = n := by omega
      go_wp2
      go_ret
      exact ⟨rfl, rfl⟩
theorem markInt64S_none (w : World) (a : Option Addr) (c : Nat) : Calls Tryz.prog 19 #[.slice a 0 c, .int .i64 1] w (fun e w' => e = .returned (.int .i64 1) ∧ Below w.heap.size w w') := by
  go_enter Tryz.func19, Tryz.ntmps19
  go_wp2
  go_loopw [1, 5] (fun q i wr => i = .int .i64 0 ∧ q = .int .i64 1 ∧ Below w.heap.size w wr) (fun _ i _ => 0)
  case atStart => exact ⟨rfl, rfl, Below.refl _ _⟩
  case round =>
    obtain ⟨rfl, rfl, hb⟩ := hrel
    go_wp2
    go_ret
    exact ⟨rfl, hb⟩
theorem markInt64S_own (w : World) (B : Nat) (v : Value) (n : Nat) (h : Own 1 w B v n) (hl : n ≤ 1000000) (hB : B ≤ w.heap.size) : Calls Tryz.prog 19 #[v, .int .i64 1] w (fun e w' => e = .returned (.int .i64 ((1 + n : Nat) : Int)) ∧ Nums 1 w' v n ∧ Below B w w') := by
  have h0 := h
  obtain ⟨a, c, rfl, q | ⟨g, rfl, hg, _⟩⟩ := h
  · subst q
    exact (markInt64S_none w a c).mono fun e w' h => ⟨h.1, ⟨a, c, rfl, .inl rfl⟩, h.2.mono hB⟩
  · exact (markInt64S_any w B _ n h0 hl).mono fun e w' h => ⟨h.1, h.2.1, h.2.2.below (fun b hb => by simp [Value.ownBlock] at hb; omega) hB⟩
/-- the numbers, in a row of the call's own -/
def IntsR (xs : List Int) (w : World) (e : Ending) (w' : World) : Prop := ∃ v, e = .returned v ∧ RInt w' (fun b => w.heap.size ≤ b) v xs ∧ Own 1 w' w.heap.size v xs.length ∧ Below w.heap.size w w'
end Go.Proofs.YtaoccbhdlkflfaaGreatDoor
