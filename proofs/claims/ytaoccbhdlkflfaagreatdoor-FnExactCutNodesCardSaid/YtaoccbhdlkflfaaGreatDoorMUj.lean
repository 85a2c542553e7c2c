/- Texts of one proof, joined in their order: each bears its own word of what it holds and on what condition. -/
import Derived.Test.YtaoccbhdlkflfaaGreatDoorMJ
import Derived.Test.YtaoccbhdlkflfaaGreatDoorMUi
import Derived.Test.YtaoccbhdlkflfaaGreatDoorMO
import Derived.Deep.CutRange
import Derived.Laws.AppendOwn
set_option linter.unusedVariables false
set_option linter.unusedSimpArgs false
/- The laws' copy of a graph, told with the room behind its edges. Condition: fewer than 2^20 elements in each row. -/
set_option linter.unusedVariables false
set_option linter.unusedSimpArgs false
namespace Go.Proofs.YtaoccbhdlkflfaaGreatDoor
open Go.RowKit

def CapE (g : Gr) (v : Value) : Prop := ∃ x a, v = .agg #[x, .slice a g.edges.length g.edges.length]
set_option maxHeartbeats 1000000 in
set_option maxRecDepth 100000 in
theorem toEdgeS_cap (w : World) (S : Nat → Prop) (v : Value) (ss : List Ed) (h : REd w S v ss) (hl : ss.length ≤ 1048576) (lim : ∀ n ∈ ss, n.fields.length ≤ 1048576) :
    Calls Tryz.prog 32 #[v] w (New (fun w S v => REd w S v ss ∧ ∃ a, v = .slice a ss.length ss.length) w) := by
  obtain ⟨a, c, rfl⟩ := h.shape
  obtain ⟨C, hC, hmk⟩ := make_run (T := 30) (E := 73) (z := .agg #[.int .i64 0, .string ⟨#[]⟩, .int .i64 0, .int .i64 0, .slice none 0 0]) (sz := 5) (by' := 64) Tryz.underlying30 (by kernel_rfl) (by decide) ss.length hl w
  go_enter Tryz.func32, Tryz.ntmps32
  go_wp2
  clear hmk
  have F0 := Fill.start 5 EEd w C 73 ss.length hC
  have B0 : Below w.heap.size w (w.alloc (.cells C 73)) := (Below.refl _ _).alloc (Nat.le_refl _) _
  have Z0 : Free w.heap.size (w.alloc (.cells C 73)) := (Free.start w).alloc _ _
  go_loopw [4] (fun i wr => ∃ k : Nat, k ≤ ss.length ∧ i = .int .i64 k ∧ Fill 5 EEd wr w.heap.size ss.length (ss.take k) ∧ Below w.heap.size w wr ∧ Free w.heap.size wr) (fun i _ => ss.length - (intOf i).toNat)
  case atStart => exact ⟨0, by omega, rfl, F0, B0, Z0⟩
  case round =>
    obtain ⟨k, hk, rfl, hF, hnx, hz⟩ := hrel
    clear F0 B0 Z0
    by_cases hlt : k < ss.length
    · obtain ⟨b, o, a2, c2, rfl, -, d0, d1, d2, d3, d4, r2, hsz⟩ := REd.at (h.below EEd.kept hnx) hlt
      go_wp2_with (go_at_call 60; refine (toEdge_any _ S _ _ _ _ _ _ r2 (lim ss[k] (List.getElem_mem hlt))).mono ?_; rintro e w1 ⟨v, rfl, ⟨x2, rfl, q2⟩, hb1, hz1⟩; obtain ⟨a4, c4, rfl⟩ := q2.shape; obtain ⟨u9, hu0'⟩ := hF.1 (k * 5) (by omega); have hF1 := hF.below EEd.kept hb1; have hz2 := hz.trans hb1 hz1; obtain ⟨u0, hu0⟩ := hF1.1 (k * 5) (by omega); have f0 := hz2 w.heap.size (k * 5) (Nat.le_refl _); obtain ⟨u1, hu1⟩ := hF1.1 (k * 5 + 1) (by omega); have f1 := hz2 w.heap.size (k * 5 + 1) (Nat.le_refl _); obtain ⟨u2, hu2⟩ := hF1.1 (k * 5 + 2) (by omega); have f2 := hz2 w.heap.size (k * 5 + 2) (Nat.le_refl _); obtain ⟨u3, hu3⟩ := hF1.1 (k * 5 + 3) (by omega); have f3 := hz2 w.heap.size (k * 5 + 3) (Nat.le_refl _); obtain ⟨u4, hu4⟩ := hF1.1 (k * 5 + 4) (by omega); have f4 := hz2 w.heap.size (k * 5 + 4) (Nat.le_refl _))
      go_roundw
      case rel =>
        have hF2 := (hF.below EEd.kept hb1).step (sz := 5) EEd.kept (x := ss[k]) (us := [.int .i64 ss[k].id, .string ss[k].type, .int .i64 ss[k].src, .int .i64 ss[k].dst, .slice a4 ss[k].fields.length c4]) rfl (by rw [len_take' ss k hk]; exact hlt) ⟨rfl, rfl, rfl, rfl, q2.mono EFld.mono (fun b hb => Nat.lt_of_lt_of_le (lt_of_cell hu0') hb), hsz⟩
        rw [← take_snoc' ss k hlt, len_take' ss k hk] at hF2
        exact ⟨k + 1, by omega, by go_num, hF2, sets_below (Nat.le_refl _) [.int .i64 ss[k].id, .string ss[k].type, .int .i64 ss[k].src, .int .i64 ss[k].dst, .slice a4 ss[k].fields.length c4] (k * 5) _ (hnx.trans (hb1.mono hnx.size)), hz2.sets _ (k * 5) [.int .i64 ss[k].id, .string ss[k].type, .int .i64 ss[k].src, .int .i64 ss[k].dst, .slice a4 ss[k].fields.length c4]⟩
      case measure => simp [intOf]; omega
    · obtain rfl : k = ss.length := by omega
      go_wp2
      go_ret
      rw [List.take_length] at hF
      exact ⟨_, rfl, ⟨hF.done EEd.mono (Nat.le_refl _) (by omega), _, rfl⟩, hnx, hz⟩


set_option maxHeartbeats 1000000 in
set_option maxRecDepth 100000 in
theorem toGraph_cap (w : World) (S : Nat → Prop) (v : Value) (g : Gr) (h : RGr w S v g) (l1 : g.nodes.length ≤ 1048576) (l2 : g.edges.length ≤ 1048576) (lim1 : ∀ n ∈ g.nodes, n.labels.length ≤ 1048576 ∧ n.fields.length ≤ 1048576) (lim2 : ∀ n ∈ g.edges, n.fields.length ≤ 1048576) :
    Calls Tryz.prog 9 #[v] w (New (fun w S v => RGr w S v g ∧ CapE g v) w) := by
  obtain ⟨v1, v2, rfl, h1, h2⟩ := h
  obtain ⟨a1, c1, rfl⟩ := h1.shape
  obtain ⟨a2, c2, rfl⟩ := h2.shape
  have hb0 := (((Below.refl _ w).alloc (Nat.le_refl _) (.cells #[.slice a1 g.nodes.length c1, .slice a2 g.edges.length c2] 25)).alloc (by simp) (.cells #[.slice none 0 0, .slice none 0 0] 32)).alloc (by simp <;> omega) (.cells #[.slice none 0 0, .slice none 0 0] 32)
  have hz0 := (((Free.start w).alloc #[.slice a1 g.nodes.length c1, .slice a2 g.edges.length c2] 25).alloc #[.slice none 0 0, .slice none 0 0] 32).alloc #[.slice none 0 0, .slice none 0 0] 32
  go_enter Tryz.func9, Tryz.ntmps9
  go_wp2_with (first
    | (go_at_call 31; refine (toNodeS_any _ S _ g.nodes (h1.below ENd.kept hb0) l1 lim1).mono ?_; rintro e w1 ⟨x1, rfl, r1, hb1, hz1⟩; obtain ⟨a3, c3, rfl⟩ := r1.shape; obtain ⟨hc1, hf1⟩ := bcell hb1; have hs1 : w.heap.size + 1 + 1 < w1.heap.size := (by have := hb1.size; simp at this; omega); have hs2 : w.heap.size + 1 < w1.heap.size := (by omega); have hs3 : w.heap.size < w1.heap.size := (by omega); have hb2 := (hb0.trans (hb1.mono (by simp <;> omega))).setCell (p := ⟨w.heap.size + 1 + 1, 0, none⟩) (by simp <;> omega) (.slice a3 g.nodes.length c3); have hz2 := (hz0.trans hb1 hz1).set ⟨w.heap.size + 1 + 1, 0, none⟩ (.slice a3 g.nodes.length c3))
    | (go_at_call 32; refine (toEdgeS_cap _ S _ g.edges (h2.below EEd.kept hb2) l2 lim2).mono ?_; rintro e w2 ⟨x2, rfl, ⟨r2, a4, rfl⟩, hb3, hz3⟩; obtain ⟨hc2, hf2⟩ := bcell hb3; have hs4 : w.heap.size + 1 + 1 < w2.heap.size := (by have := hb3.size; simp at this; omega)))
  have R1 := (((r1.set ENd.kept (a := ⟨w.heap.size + 1 + 1, 0, none⟩) (by simp <;> omega) (.slice a3 g.nodes.length c3)).below ENd.kept hb3).set ENd.kept (a := ⟨w.heap.size + 1 + 1, 1, none⟩) (by simp <;> omega) (.slice a4 g.edges.length g.edges.length)).sets ENd.kept (g := w.heap.size + 1) (by simp <;> omega) 0 [.slice a3 g.nodes.length c3, .slice a4 g.edges.length g.edges.length]
  have R2 := (r2.set EEd.kept (a := ⟨w.heap.size + 1 + 1, 1, none⟩) (by simp <;> omega) (.slice a4 g.edges.length g.edges.length)).sets EEd.kept (g := w.heap.size + 1) (by simp <;> omega) 0 [.slice a3 g.nodes.length c3, .slice a4 g.edges.length g.edges.length]
  refine bodyPost_ret (v := .agg #[.slice a3 g.nodes.length c3, .slice a4 g.edges.length g.edges.length]) (by simp [results, Tryz.results9, go_sem, hc1, hc2, hs2]) rfl ⟨_, rfl, ⟨⟨_, _, rfl, R1.mono ENd.mono (fun b hb => by simp at hb; omega), R2.mono EEd.mono (fun b hb => by simp at hb; omega)⟩, _, _, rfl⟩, ?_, ?_⟩
  · exact sets_below (g := w.heap.size + 1) (by omega) [.slice a3 g.nodes.length c3, .slice a4 g.edges.length g.edges.length] 0 _ ((hb2.trans (hb3.mono (by simp <;> omega))).setCell (by simp <;> omega) _)
  · exact ((hz2.trans hb3 hz3).set _ _).sets (w.heap.size + 1) 0 [.slice a3 g.nodes.length c3, .slice a4 g.edges.length g.edges.length]
end Go.Proofs.YtaoccbhdlkflfaaGreatDoor
/- The specification's Bridges, whole. No condition on the graph. -/
set_option linter.unusedVariables false
set_option linter.unusedSimpArgs false
namespace Go.Proofs.YtaoccbhdlkflfaaGreatDoor
open Go.RowKit Go.Sort

theorem step_append_own {P : Program} (w : World) {ops : Array Oper} {o : Oper} {a : Act} {K : Act → World → Prop} {Q : Exit → Act → World → Prop} {E : Prop} (hgd : o.guard = none) (s x : Operand) (t : TypeId)
    (ho : o.op = .call { callee := .builtin .append, args := #[s, x], argTypes := #[t, t] })
    (base : Nat) (e : TypeId) (i : TypeInfo) (z : Value) (size bytes : Nat) (ht : P.underlying t = some (.slice e)) (hi : P.info? e = some i) (hz : i.zero = some z)
    (hsize : i.size = size) (hby : i.bytes = bytes) (hzs : z.cells.size = size) (hsz : 0 < size)
    (v : Value) (n : Nat) (xs : List Value) (hs : a.eval s = v) (hown : w.ownsRow base e size v n xs)
    (ad : Addr) (m c : Nat) (news : List Value) (hx : a.eval x = .slice (some ad) m c) (hl : news.length = m * size) (hnews : ∀ j u, news[j]? = some u → w.cell? (ad.add j) = some u) (h1 : ∀ u ∈ news, u.oneCell' = true)
    (h63 : n + m ≤ maxLen) (hbytes : (n + m) * bytes ≤ 140737488355328) (hbase : base ≤ w.heap.size)
    (h : ∀ v' w', w'.ownsRow base e size v' (n + m) (xs ++ news) → w.grownBy w' v.ownBlock → K (a.put o.dst v') w') :
    if Region.wanted o (yielded ops a.tmps) = true then Oper.wp P o a w K Q else E := by
  have hw : Region.wanted o (yielded ops a.tmps) = true := by simp [Region.wanted, hgd]
  rw [if_pos hw]
  exact wp_append_own w s x t ho base e i z size bytes ht hi hz hsize hby hzs hsz v n xs hs hown ad m c news hx hl hnews h1 h63 hbytes hbase fun v' w' h2 h3 _ => h v' w' h2 h3
theorem row_of_own {α : Type} {sz : Nat} {E : Elem α} {w : World} {S : Nat → Prop} {base : Nat} {T : TypeId} {v : Value} {news : List Value} {xs : List α} {n : Nat} (h : w.ownsRow base T sz v n news) (hr : Rep sz E w S news xs) (hS : ∀ b, base ≤ b → S b) (hn : xs.length = n) (hl : n ≤ 9223372036854775807) : ∃ a c, v = .slice a n c ∧ Row sz E w S (.slice a n c) xs := by
  subst hn
  by_cases h0 : xs.length = 0
  · have : xs = [] := List.length_eq_zero_iff.1 h0
    subst this
    rcases h.2 with ⟨rfl, _⟩ | ⟨g, cap, cur, rfl, _⟩
    · exact ⟨_, _, rfl, nilRow _ _ _ _⟩
    · exact ⟨_, _, rfl, _, _, rfl, by simp, fun k x hx => by simp at hx⟩
  · obtain ⟨g, c, rfl, hb, _, ha, _⟩ := own_at h (by omega)
    exact ⟨_, _, rfl, hr.row ha (hS g hb) hl⟩
theorem grown_below {B : Nat} {W u w' : World} {row : Option Nat} (hb : Below B W u) (hg : u.grownBy w' row) (hr : ∀ q, row = some q → B ≤ q) (hB : B ≤ W.heap.size) : Below B W w' :=
  ⟨hg.os.trans hb.os, hg.tape.trans hb.tape, hg.output.trans hb.output, Nat.le_trans hb.size hg.size, fun b hb2 => (hg.block b (Nat.lt_of_lt_of_le (Nat.lt_of_lt_of_le hb2 hB) hb.size) (fun e => by have := hr b e.symm; omega)).trans (hb.block b hb2)⟩
theorem box_set {wr w6 : World} {bh m : Nat} {x y : Value} {a : Option Addr} {c : Nat} {xs : List Ed} {B : Nat} (hX : Bx w6 bh x y) (hR : REd w6 (fun b => b ≠ bh) (.slice a m c) xs) (hB : Below B wr w6) (hb : B ≤ bh) :
    Bx (w6.setCell ⟨bh, 1, none⟩ (.slice a m c)) bh x (.slice a m c) ∧ REd (w6.setCell ⟨bh, 1, none⟩ (.slice a m c)) (fun b => b ≠ bh) (.slice a m c) xs ∧ Below B wr (w6.setCell ⟨bh, 1, none⟩ (.slice a m c)) := by
  refine ⟨⟨?_, ?_, ?_, ?_⟩, hR.kept EEd.kept (fun b hne _ => Below.heap_setCell _ _ _ _ hne), ⟨hB.os, hB.tape, hB.output, by simp [World.setCell]; exact hB.size, fun b hl => (Below.heap_setCell _ _ _ _ (by show b ≠ bh; omega)).trans (hB.block b hl)⟩⟩
  · exact (World.cell?_setCell_other _ _ _ _ (by simp)).trans hX.1
  · exact World.cell?_setCell_same _ _ _ hX.2.1
  · exact (World.frozen?_setCell _ _ _ _).trans hX.2.2.1
  · exact (World.frozen?_setCell _ _ _ _).trans hX.2.2.2
/-- within the specification's loops: the graph's box stands at w's end, the row of no marks at gN; out is the row that grows -/
structure Sb (w wr : World) (gN n1 : Nat) (v1 v2 out : Value) : Prop where
  below : Below w.heap.size w wr
  c0 : wr.cell? ⟨w.heap.size, 0, none⟩ = some v1
  c1 : wr.cell? ⟨w.heap.size, 1, none⟩ = some v2
  gn : ∀ j, j < n1 → wr.cell? ⟨gN, j, none⟩ = some (.bool false)
  ne : ∀ q, out.ownBlock = some q → q ≠ gN ∧ w.heap.size + 1 ≤ q
  lt : gN < wr.heap.size
theorem Sb.step {w wr w' : World} {gN n1 : Nat} {v1 v2 out : Value} (h : Sb w wr gN n1 v1 v2 out) (hb : Below wr.heap.size wr w') : Sb w w' gN n1 v1 v2 out :=
  ⟨h.below.trans (hb.mono h.below.size), cell_kept (fun hl => hb.block _ hl) h.c0, cell_kept (fun hl => hb.block _ hl) h.c1, fun j hj => cell_kept (fun hl => hb.block _ hl) (h.gn j hj), h.ne, Nat.lt_of_lt_of_le h.lt hb.size⟩
theorem Sb.app {w wr w' : World} {gN n1 : Nat} {v1 v2 out : Value} (h : Sb w wr gN n1 v1 v2 out) (hg : wr.grownBy w' out.ownBlock) {g : Nat} (hgg : out.ownBlock = some g ∨ g = wr.heap.size) (m cap : Nat) : Sb w w' gN n1 v1 v2 (.slice (some ⟨g, 0, none⟩) m cap) := by
  have hw := lt_of_cell h.c0
  have e0 : some w.heap.size ≠ out.ownBlock := fun e => by have := (h.ne _ e.symm).2; omega
  have e1 : some gN ≠ out.ownBlock := fun e => (h.ne _ e.symm).1 rfl
  refine ⟨⟨hg.os.trans h.below.os, hg.tape.trans h.below.tape, hg.output.trans h.below.output, Nat.le_trans h.below.size hg.size, fun b hb => (hg.block b (Nat.lt_trans hb hw) (fun e => by have := (h.ne _ e.symm).2; omega)).trans (h.below.block b hb)⟩, cell_kept (fun hl => hg.block _ hl e0) h.c0, cell_kept (fun hl => hg.block _ hl e0) h.c1, fun j hj => cell_kept (fun hl => hg.block _ hl e1) (h.gn j hj), fun q hq => ?_, Nat.lt_of_lt_of_le h.lt hg.size⟩
  have hq : g = q := Option.some.inj hq
  subst hq
  rcases hgg with e | e
  · exact h.ne _ e
  · subst e
    exact ⟨fun e => by have := h.lt; omega, hw⟩
set_option maxHeartbeats 4000000 in
set_option maxRecDepth 100000 in
theorem sbridges_any (w : World) (S : Nat → Prop) (v : Value) (g : Gr) (h : RGr w S v g) (hcap : CapE g v) : Calls Tryz.prog 16 #[v] w (BrR g w) := by
  have h0 := h
  obtain ⟨v1, v2, rfl, h1, h2⟩ := h
  obtain ⟨a1, c1, rfl⟩ := h1.shape
  obtain ⟨a2, c2, rfl⟩ := h2.shape
  have hcc : c2 = g.edges.length := by
    obtain ⟨x, a, e⟩ := hcap
    injection e with e
    have e := Array.mk.inj e
    simp only [List.cons.injEq, and_true] at e
    have e := e.2
    injection e
  subst hcc
  clear hcap
  obtain ⟨n1, hn1⟩ : ∃ n, g.nodes.length = n := ⟨_, rfl⟩
  obtain ⟨n2, hn2⟩ : ∃ n, g.edges.length = n := ⟨_, rfl⟩
  have HN1 := Lib.hid hn1
  have HN2 := Lib.hid hn2
  rw [hn1, hn2] at h0
  rw [hn1, hn2]
  clear h1 h2 hn1 hn2
  obtain ⟨W0, hW0⟩ : ∃ W0, W0 = (w.alloc (.cells #[.slice a1 n1 c1, .slice a2 n2 n2] 32)).alloc (.cells #[] 2) := ⟨_, rfl⟩
  have hba : Below w.heap.size w W0 := by rw [hW0]; exact ((Below.refl _ w).alloc (Nat.le_refl _) _).alloc (by simp) _
  have r1 := h0.below hba
  have x0 : W0.cell? ⟨w.heap.size, 0, none⟩ = some (.slice a1 n1 c1) := by rw [hW0]; exact cell_alloc (by rw [World.cell?_alloc_mark]; rfl) _
  have x1 : W0.cell? ⟨w.heap.size, 1, none⟩ = some (.slice a2 n2 n2) := by rw [hW0]; exact cell_alloc (by rw [World.cell?_alloc_mark]; rfl) _
  have x2 : W0.heap[w.heap.size + 1]? = some (.cells #[] 2 (0, 0)) := by rw [hW0]; have := heap_alloc_new (w.alloc (.cells #[.slice a1 n1 c1, .slice a2 n2 n2] 32)) (.cells #[] 2); simpa using this
  have HW0 := Lib.hid hW0
  clear hW0
  cases hg : gOk g with
  | false =>
    go_enter Tryz.func16, Tryz.ntmps16
    go_upto_region 2 with fail
    rw [← HW0.out]
    go_wp2_with (go_at_call 27; refine (fault_bad _ _ _ _ hg r1).mono ?_; rintro e w1 ⟨rfl, hb1⟩)
    go_ret
    exact ⟨[], ⟨(fun _ => rfl), (fun h => by rw [hg] at h; cases h)⟩, IntsR.nil _ _ _ _ (hba.trans (hb1.mono hba.size))⟩
  | true =>
    have hw := gw_of hg
    have hlen := hw.e
    rw [HN2.out] at hlen
    have hlen1 := hw.n
    rw [HN1.out] at hlen1
    have hlen1' : (n1 : Int) ≤ 200 := by omega
    obtain ⟨CG, hCG, hCGb, hmkG⟩ := make_one (T := 50) (E := 4) (z := .bool false) (by' := 1) Tryz.underlying50 (by kernel_rfl) rfl (by decide) n1 (by omega)
    go_enter Tryz.func16, Tryz.ntmps16
    go_upto_region 2 with fail
    rw [← HW0.out]
    go_upto_region 5 with (go_at_call 27; refine (fault_good _ _ _ _ hg r1).mono ?_; rintro e w1 ⟨rfl, hb1⟩; have r2 := r1.below hb1; have y0 := cell_kept (fun hl => hb1.block _ hl) x0; have y1 := cell_kept (fun hl => hb1.block _ hl) x1)
    have b2 := (Below.refl _ w1).alloc (Nat.le_refl _) (.cells CG 4)
    have hgN : ∀ j, j < n1 → (w1.alloc (.cells CG 4)).cell? ⟨w1.heap.size, j, none⟩ = some (.bool false) := fun j hj => by rw [World.cell?_alloc_mark]; exact hCGb j hj
    have hgl : w1.heap.size < (w1.alloc (.cells CG 4)).heap.size := by simp
    have r3 := r2.below b2
    have z0 := cell_alloc y0 (.cells CG 4)
    have z1 := cell_alloc y1 (.cells CG 4)
    have hbA : Below w.heap.size w (w1.alloc (.cells CG 4)) := (hba.trans (hb1.mono hba.size)).trans (b2.mono (Nat.le_trans hba.size hb1.size))
    have hlt2 : w.heap.size + 1 < w1.heap.size := Nat.lt_of_lt_of_le (Array.getElem?_eq_some_iff.1 x2).1 hb1.size
    have x2 : (w1.alloc (.cells CG 4)).heap[w.heap.size + 1]? = some (.cells #[] 2 (0, 0)) := (b2.block _ hlt2).trans ((hb1.block _ (Array.getElem?_eq_some_iff.1 x2).1).trans x2)
    generalize w1.alloc (.cells CG 4) = W3 at hgN hgl r3 z0 z1 hbA x2 ⊢
    obtain ⟨gN, hgNe⟩ : ∃ b, w1.heap.size = b := ⟨_, rfl⟩
    rw [hgNe] at hgN hgl hlt2
    simp only [hgNe]
    clear b2 hgNe y0 y1 x0 x1 r1 r2 hb1 hba HW0
    go_upto_region 6 with (first
      | (go_at_call 28; refine (linked_gw _ S _ g r3 hw).mono ?_; rintro e w4 ⟨vL, gs, rfl, hmx, hb4⟩; rw [HN1.out] at hmx; have hgN4 := (fun j hj => cell_kept (fun hl => hb4.block _ hl) (hgN j hj)))
      | (go_at_call 42; refine (scount_any _ _ n1 hlen1 _ _ _ hmx gN n1 (fun _ => false) hgN4).mono ?_; rintro e w5 ⟨n, rfl, hcard, hnb, hb5⟩))
    have hcomp := comps_whole hw (by rw [HN1.out]; exact hcard)
    have hb35 := hb4.trans (hb5.mono hb4.size)
    have hsb : Sb w w5 gN n1 (.slice a1 n1 c1) (.slice a2 n2 n2) (.slice (some ⟨w.heap.size + 1, 0, none⟩) 0 0) := ⟨hbA.trans (hb35.mono hbA.size), cell_kept (fun hl => hb35.block _ hl) z0, cell_kept (fun hl => hb35.block _ hl) z1, fun j hj => cell_kept (fun hl => hb35.block _ hl) (hgN j hj), fun q hq => by have hq : w.heap.size + 1 = q := Option.some.inj hq; subst hq; exact ⟨by omega, Nat.le_refl _⟩, Nat.lt_of_lt_of_le hgl hb35.size⟩
    have hown0 : w5.ownsRow (w.heap.size + 1) 2 1 (.slice (some ⟨w.heap.size + 1, 0, none⟩) 0 0) 0 [] := ⟨rfl, .inr ⟨w.heap.size + 1, 0, #[], rfl, Nat.le_refl _, (hb35.block _ (by omega)).trans x2, by simp, by unfold maxLen; simp, rfl, rfl⟩⟩
    have h0 := h0.within
    have HCOMP := Lib.hid hcomp
    clear hcard hcomp hb4 hb5 hb35 z0 z1 hgN hgN4 x2 r3 hmx hlt2 hgl hbA
    go_wp2_with fail
    go_loopw [3, 6, 7] (fun out i _ wr => ∃ (k : Nat) (cs : Nat → Nat), k ≤ n2 ∧ i = .int .i64 k ∧ Sb w wr gN n1 (.slice a1 n1 c1) (.slice a2 n2 n2) out ∧ (∀ j, j < k → Comps (idsOf g.nodes) (g.edges.eraseIdx j) (cs j)) ∧ wr.ownsRow (w.heap.size + 1) 2 1 out (pickN (fun k => (g.edges.getD k d0).id) (fun k => decide (n < cs k)) k).length ((pickN (fun k => (g.edges.getD k d0).id) (fun k => decide (n < cs k)) k).map (Value.int .i64))) (fun _ i _ wr => n2 - (intOf i).toNat)
    case atStart => exact ⟨0, fun _ => 0, by omega, rfl, hsb, fun j hj => by omega, hown0⟩
    case round =>
      clear hsb hown0
      obtain ⟨k, cs, hk, rfl, hsb, hcs, hown⟩ := hrel
      have q0 := hsb.c0
      have q1 := hsb.c1
      by_cases hlt : k < n2
      · have f0 : decide ((k : Int) < n2) = true := decide_eq_true (by omega)
        have f0' : decide (k < n2) = true := decide_eq_true hlt
        have hlt2 : (k : Int) < n2 := by omega
        have hltE : k < g.edges.length := by rw [HN2.out]; exact hlt
        have hn2' : (n2 : Int) ≤ 400 := by omega
        have r5 := h0.below hsb.below
        obtain ⟨u1, u2, hu, hN, hEd⟩ := id r5
        injection hu with hu
        have hu := Array.mk.inj hu
        simp only [List.cons.injEq, and_true] at hu
        obtain ⟨rfl, rfl⟩ := hu
        obtain ⟨b, o, l2, d2, rfl, hS0, hc, -, -, -, -, -, -⟩ := REd.at hEd hltE
        obtain ⟨news, hrep, hat⟩ := hEd.cells
        have hone := hrep.one (by decide) (fun f x h => EEd.one h)
        have hnl : news.length = n2 * 5 := by rw [hrep.1, HN2.out]
        obtain ⟨xi, hxi⟩ : ∃ xi, g.edges[k].id = xi := ⟨_, rfl⟩
        rw [hxi] at hc
        have HXI := Lib.hid hxi
        clear hxi hu
        go_upto_region 10 with fail
        have hbe := (Below.refl _ wr).alloc (Nat.le_refl _) (.cells #[.slice a1 n1 c1, .slice (some ⟨b, o, none⟩) n2 n2] 32)
        have hBx := bx_new wr (.slice a1 n1 c1) (.slice (some ⟨b, o, none⟩) n2 n2) 32
        have hes : (wr.alloc (.cells #[.slice a1 n1 c1, .slice (some ⟨b, o, none⟩) n2 n2] 32)).heap.size = wr.heap.size + 1 := by simp
        generalize wr.alloc (.cells #[.slice a1 n1 c1, .slice (some ⟨b, o, none⟩) n2 n2] 32) = W2 at hbe hBx hes ⊢
        obtain ⟨bh, hbh⟩ : ∃ b, wr.heap.size = b := ⟨_, rfl⟩
        simp only [hbh]
        rw [hbh] at hBx hes
        have HBH := Lib.hid hbh
        have HES := Lib.hid hes
        clear hbh hes
        obtain ⟨m, hmn⟩ : ∃ m, n2 = m + 1 := ⟨n2 - 1, by omega⟩
        have HMN := Lib.hid hmn
        have hmk : k + (n2 - (k + 1)) = m := by omega
        have hel : (g.edges.eraseIdx k).length = m := by rw [List.length_eraseIdx_of_lt hltE, HN2.out]; omega
        clear hmn
        go_cut [] from 21 to 56 (fun wx => ∃ a c, Bx wx bh (.slice a1 n1 c1) (.slice a m c) ∧ REd wx (fun b => b ≠ bh) (.slice a m c) (g.edges.eraseIdx k) ∧ Below wr.heap.size wr wx)
        case first =>
          obtain ⟨i0, hi0, hz0, hz1, hz2⟩ := info_parts (show (Tryz.prog.info? 73).map (fun i => (i.zero, i.size, i.bytes)) = some (some (.agg #[.int .i64 0, .string ByteArray.empty, .int .i64 0, .int .i64 0, .slice none 0 0]), 5, 64) by kernel_rfl)
          obtain ⟨dr, hdr⟩ : ∃ dr, dr = news.drop ((k + 1) * 5) := ⟨_, rfl⟩
          obtain ⟨tk, htk⟩ : ∃ tk, tk = news.take (k * 5) := ⟨_, rfl⟩
          have hdl : dr.length = (n2 - (k + 1)) * 5 := by rw [hdr, List.length_drop, hnl]; omega
          have htl : tk.length = k * 5 := by rw [htk, List.length_take, hnl]; omega
          have hatF : ∀ u, Below W2.heap.size W2 u → At u b o news := fun u hu j x hx => cell_kept (fun hl => (hbe.trans (hu.mono hbe.size)).block _ hl) (hat j x hx)
          have hsrc0 : Hid (∀ u, Below W2.heap.size W2 u → ∀ j x, tk[j]? = some x → u.cell? ((⟨b, o, none⟩ : Addr).add j) = some x) := Lib.hid fun u hu j x hx => by
            have hj := (List.getElem?_eq_some_iff.1 hx).1
            rw [htk, List.getElem?_take, if_pos (by omega)] at hx
            rw [Addr.add_lit]
            exact hatF u hu j x hx
          obtain ⟨A, hA, hsrc⟩ : ∃ A : Addr, (if n2 = k + 1 then (some ⟨b, o, none⟩ : Option Addr) else some ⟨b, o + (k + 1) * 5, none⟩) = some A ∧ Hid (∀ u, Below W2.heap.size W2 u → ∀ j x, dr[j]? = some x → u.cell? (A.add j) = some x) := by
            by_cases h : n2 = k + 1
            · refine ⟨⟨b, o, none⟩, by simp [h], Lib.hid fun u hu j x hx => ?_⟩
              have h0 : dr.length = 0 := by rw [hdl]; omega
              rw [List.length_eq_zero_iff.1 h0] at hx
              simp at hx
            · refine ⟨⟨b, o + (k + 1) * 5, none⟩, by simp [h], Lib.hid fun u hu j x hx => ?_⟩
              rw [hdr, List.getElem?_drop] at hx
              have := hatF u hu _ _ hx
              rw [Addr.add_lit]
              rw [← Nat.add_assoc] at this
              exact this
          have HO1 : Hid (∀ u ∈ tk, u.oneCell' = true) := Lib.hid fun u hu => hone u (by rw [htk] at hu; exact List.mem_of_mem_take hu)
          have HO2 : Hid (∀ u ∈ dr, u.oneCell' = true) := Lib.hid fun u hu => hone u (by rw [hdr] at hu; exact List.mem_of_mem_drop hu)
          have HL1 := Lib.hid htl
          have HL2 := Lib.hid hdl
          have hrow := (hrep.mono EEd.mono (S' := fun b => b ≠ bh) (fun b hb => by have := hb.2; have := hsb.below.size; have := HBH.out; omega)).erase hltE
          rw [← htk, ← hdr] at hrow
          have HROW : Hid (∀ u, Below W2.heap.size W2 u → Rep 5 EEd u (fun b => b ≠ bh) (tk ++ dr) (g.edges.eraseIdx k)) := Lib.hid fun u hu => hrow.kept EEd.kept (hbe.trans (hu.mono hbe.size))
          have hown_e : (W2.alloc (.cells #[] 73)).ownsRow W2.heap.size 73 5 (.slice (some ⟨W2.heap.size, 0, none⟩) 0 0) 0 [] := World.ownsRow_made W2 #[] 0 (Nat.le_refl _) (Nat.zero_le _) (by simp)
          have hB0 : Below W2.heap.size W2 (W2.alloc (.cells #[] 73)) := (Below.refl _ W2).alloc (Nat.le_refl _) _
          clear htl hdl hrow hatF hdr htk hat hone hrep
          have q0 := cell_kept (fun hl => hbe.block _ hl) q0
          have q1 := cell_kept (fun hl => hbe.block _ hl) q1
          have qa1 := fun ob => cell_alloc q1 ob
          have HQ1 := Lib.hid q1
          have hz1' : IntKind.i64.wrap ((k : Int) + 1) = (k : Int) + 1 := wrap64_of _ (by omega) (by omega)
          have g1 : (k : Int) ≤ n2 := by omega
          have g2 : k ≤ n2 := by omega
          have g3 : (k : Int) + 1 ≤ n2 := by omega
          have g4 : k + 1 ≤ n2 := by omega
          have g5 : (0 : Int) ≤ (k : Int) + 1 := by omega
          have T1 : ∀ (ops : Array Oper) (oo : Oper) (a : Act) (K : Act → World → Prop) (Q : Exit → Act → World → Prop) (E : Prop) (hg : oo.guard = none) (ho : oo.op = .call { callee := .builtin .append, args := #[.tmp 29, .tmp 33], argTypes := #[30, 30] }) (hs : a.eval (.tmp 29) = .slice (some ⟨W2.heap.size, 0, none⟩) 0 0) (hx : a.eval (.tmp 33) = .slice (some ⟨b, o, none⟩) k n2) (h : ∀ v' w', w'.ownsRow W2.heap.size 73 5 v' k tk → Below W2.heap.size W2 w' → K (a.put oo.dst v') w'), if Region.wanted oo (yielded ops a.tmps) = true then Oper.wp Tryz.prog oo a (W2.alloc (.cells #[] 73)).drew K Q else E := fun ops oo a K Q E hg ho hs hx h =>
            step_append_own _ hg (.tmp 29) (.tmp 33) 30 ho W2.heap.size 73 i0 _ 5 64 Tryz.underlying30 hi0 hz0 hz1 hz2 (by decide) (by decide) _ 0 [] hs hown_e ⟨b, o, none⟩ k n2 tk hx HL1.out (hsrc0.out _ ⟨hB0.os, hB0.tape, hB0.output, hB0.size, hB0.block⟩) HO1.out (by unfold maxLen; omega) (by omega) hB0.size (fun v5 w5 hown5 hgr5 => h v5 w5 (by simpa using hown5) (grown_below (u := (W2.alloc (.cells #[] 73)).drew) ⟨hB0.os, hB0.tape, hB0.output, hB0.size, hB0.block⟩ hgr5 (fun q hq => Nat.le_of_eq (Option.some.inj hq)) (Nat.le_refl _)))
          have T2 : ∀ (v5 : Value) (w5 : World) (hown5 : w5.ownsRow W2.heap.size 73 5 v5 k tk) (hB5 : Below W2.heap.size W2 w5) (ops : Array Oper) (oo : Oper) (a : Act) (K : Act → World → Prop) (Q : Exit → Act → World → Prop) (E : Prop) (hg : oo.guard = none) (ho : oo.op = .call { callee := .builtin .append, args := #[.tmp 34, .tmp 39], argTypes := #[30, 30] }) (hs : a.eval (.tmp 34) = v5) (hx : a.eval (.tmp 39) = .slice (some A) (n2 - (k + 1)) (n2 - (k + 1))) (h : ∀ a6 c6 w', REd w' (fun b => b ≠ bh) (.slice a6 m c6) (g.edges.eraseIdx k) → Below W2.heap.size W2 w' → Bx w' bh (.slice a1 n1 c1) (.slice (some ⟨b, o, none⟩) n2 n2) → K (a.put oo.dst (.slice a6 m c6)) w'), if Region.wanted oo (yielded ops a.tmps) = true then Oper.wp Tryz.prog oo a w5 K Q else E := fun v5 w5 hown5 hB5 ops oo a K Q E hg ho hs hx h =>
            step_append_own _ hg (.tmp 34) (.tmp 39) 30 ho W2.heap.size 73 i0 _ 5 64 Tryz.underlying30 hi0 hz0 hz1 hz2 (by decide) (by decide) _ k tk hs hown5 A (n2 - (k + 1)) (n2 - (k + 1)) dr hx HL2.out (hsrc.out _ hB5) HO2.out (by unfold maxLen; omega) (by omega) hB5.size (fun v6 w6 hown6 hgr6 => by
              have hB6 : Below W2.heap.size W2 w6 := grown_below hB5 hgr6 (fun q hq => (hown5.lt q hq).1) (Nat.le_refl _)
              rw [hmk] at hown6
              obtain ⟨a6, c6, rfl, hR6⟩ := row_of_own hown6 (HROW.out _ hB6) (fun b hb => by have := HES.out; omega) hel (by omega)
              exact h a6 c6 w6 hR6 hB6 (hBx.block (hB6.block bh (by have := HES.out; omega))))
          go_region_law (first
            | (refine T1 _ _ _ _ _ _ rfl rfl (by simp [Act.eval, Act.put]) (by simp [Act.eval, Act.put]) ?_; intro v5 w5 hown5 hB5; have q51 := cell_kept (fun hl => hB5.block _ hl) HQ1.out)
            | (refine T2 v5 w5 hown5 hB5 _ _ _ _ _ _ rfl rfl (by simp [Act.eval, Act.put]) (by simp [Act.eval, Act.put]) ?_; intro a6 c6 w6 hR6 hB6 hX6; obtain ⟨m0, m1, m2, m3⟩ := id hX6))
          all_goals
            go_wp2_with fail
            go_meet
            exact ⟨a6, c6, box_set hX6 hR6 (hbe.trans (hB6.mono hbe.size)) (Nat.le_of_eq HBH.out)⟩
        case rest =>
          obtain ⟨a6, c6, ⟨m0, m1, -, -⟩, hR6, hBw⟩ := hcut
          have rr : RGr wc (fun b => b ≠ bh) (.agg #[.slice a1 n1 c1, .slice a6 m c6]) ⟨g.nodes, g.edges.eraseIdx k⟩ := ⟨_, _, rfl, (hN.mono ENd.mono (fun b hb => by have := hb.2; have := hsb.below.size; have := HBH.out; omega)).below ENd.kept hBw, hR6⟩
          have hgl := gw_less hw k
          have hgw := fun j hj => cell_kept (fun hl => hBw.block _ hl) (hsb.gn j hj)
          have hcw := cell_kept (fun hl => hBw.block _ hl) hc
          clear hR6 hbe hBx hrep hat hEd hN r5 hc q0 q1 HES
          go_upto_region 12 with (first
            | (go_at_call 28; refine (linked_gw _ _ _ _ rr hgl).mono ?_; rintro e w7 ⟨vL2, gs2, rfl, hmx2, hb7⟩; have hmx2 : Mx wc.heap.size w7 vL2 n1 n1 gs2 (lnks g.nodes (g.edges.eraseIdx k)) := (by rw [← HN1.out]; exact hmx2); have hg7 := (fun j hj => cell_kept (fun hl => hb7.block _ hl) (hgw j hj)))
            | (go_at_call 42; refine (scount_any _ _ n1 hlen1 _ _ _ hmx2 gN n1 (fun _ => false) hg7).mono ?_; rintro e w8 ⟨nk, rfl, hcard2, hnb2, hb8⟩))
          all_goals
            have hcomp2 := comps_whole hgl (c := nk) (by show CardOf (StS g.nodes.length _ _) nk; rw [HN1.out]; exact hcard2)
            have hb78 := hb7.trans (hb8.mono hb7.size)
            have hW8 : Below wr.heap.size wr w8 := hBw.trans (hb78.mono hBw.size)
            have hown8 := own_kept hown (fun b hb hl => hW8.block b hl)
            have hsb8 := hsb.step hW8
            have hc8 := cell_kept (fun hl => hb78.block _ hl) hcw
            have hcs8 : ∀ j, j < k + 1 → Comps (idsOf g.nodes) (g.edges.eraseIdx j) (set1 cs k nk j) := fun j hj => by
              by_cases e : j = k
              · subst e; rw [set1_same]; exact hcomp2
              · rw [set1_other (by omega)]; exact hcs j (by omega)
            have hPL := pickN_len (fun k => (g.edges.getD k d0).id) (fun k => decide (n < cs k)) k
            have hdec : ∀ j, j < k → decide (n < set1 cs k nk j) = decide (n < cs j) := fun j hj => by rw [set1_other hj]
            clear hb7 hb8 rr hgl hcard2 hown hBw hcs m0 m1 hmx2 hg7 hgw hcw hb78 hsb hcomp2 hW8
          · rename_i hlt3
            have hpm := pick_more (id := fun k => (g.edges.getD k d0).id) (dec := fun k => decide (n < cs k)) (dec' := fun j => decide (n < set1 cs k nk j)) hdec (by rw [set1_same]; exact decide_eq_true hlt3)
            simp only [getD_eq hltE, HXI.out] at hpm
            generalize pickN (fun k => (g.edges.getD k d0).id) (fun k => decide (n < cs k)) k = P at hown8 hPL hpm
            obtain ⟨i0, hi0, hz0, hz1, hz2⟩ := info_parts (show (Tryz.prog.info? 2).map (fun i => (i.zero, i.size, i.bytes)) = some (some (.int .i64 0), 1, 8) by kernel_rfl)
            have hP2 : P.length ≤ 400 := by omega
            have hsz8 : w.heap.size + 1 ≤ w8.heap.size := lt_of_cell hsb8.c0
            have q1 := hsb8.c1
            clear hlt3
            go_wp2_with (at_builtin; refine wpList_append_lies _ rfl (.tmp 48) (.tmp 55) 39 rfl (w.heap.size + 1) 2 i0 (.int .i64 0) 1 8 Tryz.underlying39 hi0 hz0 hz1 hz2 rfl (by decide) _ P.length (P.map (Value.int .i64)) rfl (hown8.alloc _) ⟨_, 0, none⟩ 1 1 [.int .i64 xi] rfl rfl (new_cells (by simp) _ _) (by intro u hu; simp at hu; subst hu; rfl) (by decide) (by unfold maxLen; omega) (by omega) (by simp; omega) _ rfl ?_; intro gg cap w9 hown9 hgrow9 hat9 hlt9; have hgrow9 : World.grownBy _ w9 u3.ownBlock := hgrow9)
            go_round
            case rel =>
              refine ⟨k + 1, set1 cs k nk, by omega, by go_num, ?_, hcs8, ?_⟩
              · exact (hsb8.step ((Below.refl _ w8).alloc (Nat.le_refl _) _)).app hgrow9 hat9 _ _
              · rw [hpm, List.length_append, List.map_append]; exact hown9
            case measure => simp [intOf]; omega
          · rename_i hlt3
            have hpm := pick_same (id := fun k => (g.edges.getD k d0).id) (dec := fun k => decide (n < cs k)) (dec' := fun j => decide (n < set1 cs k nk j)) hdec (by rw [set1_same]; exact decide_eq_false hlt3)
            go_round
            case rel => exact ⟨k + 1, set1 cs k nk, by omega, by go_num, hsb8, hcs8, by rw [hpm]; exact hown8⟩
            case measure => simp [intOf]; omega
      · have hk3 : k = n2 := by omega
        subst hk3
        have f0 : decide ((k : Int) < k) = false := decide_eq_false (by omega)
        go_wp2_with fail
        go_ret
        obtain ⟨t1, t2⟩ := own_rint hown (by have := pickN_len (fun k => (g.edges.getD k d0).id) (fun i => decide (n < cs i)) k; omega)
        refine ⟨_, ⟨(fun h => by rw [hg] at h; cases h), fun _ => ⟨n, cs, HCOMP.out, fun j hj => hcs j (by rw [← HN2.out]; exact hj), rfl⟩⟩, _, rfl, ?_, ?_, hsb.below⟩
        · rw [HN2.out]; exact t1.mono EInt.mono (fun b hb => by omega)
        · rw [HN2.out]; exact Own.low t2 (by omega)
end Go.Proofs.YtaoccbhdlkflfaaGreatDoor
