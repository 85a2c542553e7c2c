/- Texts of one proof, joined in their order: each bears its own word of what it holds and on what condition. -/
import Derived.Test.YtllhimeffkefiaaGreatDoorMJ
set_option linter.unusedVariables false
set_option linter.unusedSimpArgs false
/- The laws' copy of a graph, told with the room behind its edges. Condition: fewer than 2^20 elements in each row. -/
set_option linter.unusedVariables false
set_option linter.unusedSimpArgs false
namespace Go.Proofs.YtllhimeffkefiaaGreatDoor
open Go.RowKit

def CapE (g : Gr) (v : Value) : Prop := ∃ x a, v = .agg #[x, .slice a g.edges.length g.edges.length]
set_option maxHeartbeats 1000000 in
set_option maxRecDepth 100000 in
theorem toEdgeS_cap (w : World) (S : Nat → Prop) (v : Value) (ss : List Ed) (h : REd w S v ss) (hl : ss.length ≤ 1048576) (lim : ∀ n ∈ ss, n.fields.length ≤ 1048576) :
    Calls Tryz.prog 40 #[v] w (New (fun w S v => REd w S v ss ∧ ∃ a, v = .slice a ss.length ss.length) w) := by
  obtain ⟨a, c, rfl⟩ := h.shape
  obtain ⟨C, hC, hmk⟩ := make_run (T := 34) (E := 122) (z := .agg #[.int .i64 0, .string ⟨#[]⟩, .int .i64 0, .int .i64 0, .slice none 0 0]) (sz := 5) (by' := 64) Tryz.underlying34 (by kernel_rfl) (by decide) ss.length hl w
  go_enter Tryz.func40, Tryz.ntmps40
  go_wp2
  clear hmk
  have F0 := Fill.start 5 EEd w C 122 ss.length hC
  have B0 : Below w.heap.size w (w.alloc (.cells C 122)) := (Below.refl _ _).alloc (Nat.le_refl _) _
  have Z0 : Free w.heap.size (w.alloc (.cells C 122)) := (Free.start w).alloc _ _
  go_loopw [4] (fun i wr => ∃ k : Nat, k ≤ ss.length ∧ i = .int .i64 k ∧ Fill 5 EEd wr w.heap.size ss.length (ss.take k) ∧ Below w.heap.size w wr ∧ Free w.heap.size wr) (fun i _ => ss.length - (intOf i).toNat)
  case atStart => exact ⟨0, by omega, rfl, F0, B0, Z0⟩
  case round =>
    obtain ⟨k, hk, rfl, hF, hnx, hz⟩ := hrel
    clear F0 B0 Z0
    by_cases hlt : k < ss.length
    · obtain ⟨b, o, a2, c2, rfl, -, d0, d1, d2, d3, d4, r2, hsz⟩ := REd.at (h.below EEd.kept hnx) hlt
      go_wp2_with (go_at_call 73; refine (toEdge_any _ S _ _ _ _ _ _ r2 (lim ss[k] (List.getElem_mem hlt))).mono ?_; rintro e w1 ⟨v, rfl, ⟨x2, rfl, q2⟩, hb1, hz1⟩; obtain ⟨a4, c4, rfl⟩ := q2.shape; obtain ⟨u9, hu0'⟩ := hF.1 (k * 5) (by omega); have hF1 := hF.below EEd.kept hb1; have hz2 := hz.trans hb1 hz1; obtain ⟨u0, hu0⟩ := hF1.1 (k * 5) (by omega); have f0 := hz2 w.heap.size (k * 5) (Nat.le_refl _); obtain ⟨u1, hu1⟩ := hF1.1 (k * 5 + 1) (by omega); have f1 := hz2 w.heap.size (k * 5 + 1) (Nat.le_refl _); obtain ⟨u2, hu2⟩ := hF1.1 (k * 5 + 2) (by omega); have f2 := hz2 w.heap.size (k * 5 + 2) (Nat.le_refl _); obtain ⟨u3, hu3⟩ := hF1.1 (k * 5 + 3) (by omega); have f3 := hz2 w.heap.size (k * 5 + 3) (Nat.le_refl _); obtain ⟨u4, hu4⟩ := hF1.1 (k * 5 + 4) (by omega); have f4 := hz2 w.heap.size (k * 5 + 4) (Nat.le_refl _))
      go_roundw
      case rel =>
        have hF2 := (hF.below EEd.kept hb1).step (sz := 5) EEd.kept (x := ss[k]) (us := [.int .i64 ss[k].id, .string ss[k].type, .int .i64 ss[k].src, .int .i64 ss[k].dst, .slice a4 ss[k].fields.length c4]) rfl (by rw [len_take' ss k hk]; exact hlt) ⟨rfl, rfl, rfl, rfl, q2.mono EFld.mono (fun b hb => Nat.lt_of_lt_of_le (lt_of_cell hu0') hb), hsz⟩
        rw [← take_snoc' ss k hlt, len_take' ss k hk] at hF2
        exact ⟨k + 1, by omega, by go_num, hF2, sets_below (Nat.le_refl _) [.int .i64 ss[k].id, .string ss[k].type, .int .i64 ss[k].src, .int .i64 ss[k].dst, .slice a4 ss[k].fields.length c4] (k * 5) _ (hnx.trans (hb1.mono hnx.size)), hz2.sets _ (k * 5) [.int .i64 ss[k].id, .string ss[k].type, .int .i64 ss[k].src, .int .i64 ss[k].dst, .slice a4 ss[k].fields.length c4]⟩
      case measure => simp [intOf]; omega
    · obtain rfl : k = ss.length := by omega
      go_wp2
      go_ret
      rw [List.take_length] at hF
      exact ⟨_, rfl, ⟨hF.done EEd.mono (Nat.le_refl _) (by omega), _, rfl⟩, hnx, hz⟩


set_option maxHeartbeats 1000000 in
set_option maxRecDepth 100000 in
theorem toGraph_cap (w : World) (S : Nat → Prop) (v : Value) (g : Gr) (h : RGr w S v g) (l1 : g.nodes.length ≤ 1048576) (l2 : g.edges.length ≤ 1048576) (lim1 : ∀ n ∈ g.nodes, n.labels.length ≤ 1048576 ∧ n.fields.length ≤ 1048576) (lim2 : ∀ n ∈ g.edges, n.fields.length ≤ 1048576) :
    Calls Tryz.prog 10 #[v] w (New (fun w S v => RGr w S v g ∧ CapE g v) w) := by
  obtain ⟨v1, v2, rfl, h1, h2⟩ := h
  obtain ⟨a1, c1, rfl⟩ := h1.shape
  obtain ⟨a2, c2, rfl⟩ := h2.shape
  have hb0 := (((Below.refl _ w).alloc (Nat.le_refl _) (.cells #[.slice a1 g.nodes.length c1, .slice a2 g.edges.length c2] 25)).alloc (by simp) (.cells #[.slice none 0 0, .slice none 0 0] 36)).alloc (by simp <;> omega) (.cells #[.slice none 0 0, .slice none 0 0] 36)
  have hz0 := (((Free.start w).alloc #[.slice a1 g.nodes.length c1, .slice a2 g.edges.length c2] 25).alloc #[.slice none 0 0, .slice none 0 0] 36).alloc #[.slice none 0 0, .slice none 0 0] 36
  go_enter Tryz.func10, Tryz.ntmps10
  go_wp2_with (first
    | (go_at_call 39; refine (toNodeS_any _ S _ g.nodes (h1.below ENd.kept hb0) l1 lim1).mono ?_; rintro e w1 ⟨x1, rfl, r1, hb1, hz1⟩; obtain ⟨a3, c3, rfl⟩ := r1.shape; obtain ⟨hc1, hf1⟩ := bcell hb1; have hs1 : w.heap.size + 1 + 1 < w1.heap.size := (by have := hb1.size; simp at this; omega); have hs2 : w.heap.size + 1 < w1.heap.size := (by omega); have hs3 : w.heap.size < w1.heap.size := (by omega); have hb2 := (hb0.trans (hb1.mono (by simp <;> omega))).setCell (p := ⟨w.heap.size + 1 + 1, 0, none⟩) (by simp <;> omega) (.slice a3 g.nodes.length c3); have hz2 := (hz0.trans hb1 hz1).set ⟨w.heap.size + 1 + 1, 0, none⟩ (.slice a3 g.nodes.length c3))
    | (go_at_call 40; refine (toEdgeS_cap _ S _ g.edges (h2.below EEd.kept hb2) l2 lim2).mono ?_; rintro e w2 ⟨x2, rfl, ⟨r2, a4, rfl⟩, hb3, hz3⟩; obtain ⟨hc2, hf2⟩ := bcell hb3; have hs4 : w.heap.size + 1 + 1 < w2.heap.size := (by have := hb3.size; simp at this; omega)))
  have R1 := (((r1.set ENd.kept (a := ⟨w.heap.size + 1 + 1, 0, none⟩) (by simp <;> omega) (.slice a3 g.nodes.length c3)).below ENd.kept hb3).set ENd.kept (a := ⟨w.heap.size + 1 + 1, 1, none⟩) (by simp <;> omega) (.slice a4 g.edges.length g.edges.length)).sets ENd.kept (g := w.heap.size + 1) (by simp <;> omega) 0 [.slice a3 g.nodes.length c3, .slice a4 g.edges.length g.edges.length]
  have R2 := (r2.set EEd.kept (a := ⟨w.heap.size + 1 + 1, 1, none⟩) (by simp <;> omega) (.slice a4 g.edges.length g.edges.length)).sets EEd.kept (g := w.heap.size + 1) (by simp <;> omega) 0 [.slice a3 g.nodes.length c3, .slice a4 g.edges.length g.edges.length]
  refine bodyPost_ret (v := .agg #[.slice a3 g.nodes.length c3, .slice a4 g.edges.length g.edges.length]) (by simp [results, Tryz.results10, go_sem, hc1, hc2, hs2]) rfl ⟨_, rfl, ⟨⟨_, _, rfl, R1.mono ENd.mono (fun b hb => by simp at hb; omega), R2.mono EEd.mono (fun b hb => by simp at hb; omega)⟩, _, _, rfl⟩, ?_, ?_⟩
  · exact sets_below (g := w.heap.size + 1) (by omega) [.slice a3 g.nodes.length c3, .slice a4 g.edges.length g.edges.length] 0 _ ((hb2.trans (hb3.mono (by simp <;> omega))).setCell (by simp <;> omega) _)
  · exact ((hz2.trans hb3 hz3).set _ _).sets (w.heap.size + 1) 0 [.slice a3 g.nodes.length c3, .slice a4 g.edges.length g.edges.length]
end Go.Proofs.YtllhimeffkefiaaGreatDoor
