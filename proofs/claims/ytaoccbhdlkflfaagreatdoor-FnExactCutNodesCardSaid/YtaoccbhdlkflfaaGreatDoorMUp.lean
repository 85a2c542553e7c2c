/- Texts of one proof, joined in their order: each bears its own word of what it holds and on what condition. -/
import Derived.Test.YtaoccbhdlkflfaaGreatDoorMUn
import Derived.Test.YtaoccbhdlkflfaaGreatDoorMUo
set_option linter.unusedVariables false
set_option linter.unusedSimpArgs false
/- impl's CutNodes, whole. Condition: the library's variables are as they were laid. -/
set_option linter.unusedVariables false
set_option linter.unusedSimpArgs false
namespace Go.Proofs.YtaoccbhdlkflfaaGreatDoor
open Go.RowKit Go.Sort

theorem comps_there {g : Gr} (h : Gw g) {f : Int → Int} (hp : IsPart (idsOf g.nodes) g.edges f) : ∃ c, Comps (idsOf g.nodes) g.edges c := by
  have hnd : (idsOf g.nodes).Nodup := by
    unfold idsOf
    rw [List.nodup_iff_pairwise_ne, List.pairwise_map]
    exact List.pairwise_iff_getElem.2 fun i j hi hj hij => Int.ne_of_lt (h.rise i j hj hij)
  refine ⟨_, (idsOf g.nodes).filter fun x => decide (f x = x), hnd.filter _, fun x => ?_, rfl⟩
  rw [List.mem_filter, decide_eq_true_eq, ← hp.lead x]
  constructor
  · rintro ⟨a, b⟩; exact ⟨x, a, b⟩
  · rintro ⟨id, a, b⟩
    subst b
    obtain ⟨a1, a2, a3⟩ := hp id a
    obtain ⟨b1, b2, b3⟩ := hp _ a1
    have := a3 _ b1 (a2.trans b2)
    have := b3 _ a1 (Con.refl _)
    exact ⟨a1, by omega⟩
theorem cut_erase {g : Gr} (h : Gw g) {k : Nat} (hk : k < g.nodes.length) : cutNs g.nodes g.nodes[k].id = g.nodes.eraseIdx k := by
  have hs : ∀ l : List Nd, (∀ x ∈ l, x.id ≠ g.nodes[k].id) → cutNs l g.nodes[k].id = l := fun l hl => List.filter_eq_self.2 fun x hx => decide_eq_true (hl x hx)
  have e : g.nodes = g.nodes.take k ++ g.nodes[k] :: g.nodes.drop (k + 1) := by rw [List.getElem_cons_drop, List.take_append_drop]
  have h1 : cutNs (g.nodes.take k) g.nodes[k].id = g.nodes.take k := hs _ fun x hx => by
    obtain ⟨i, hi, rfl⟩ := List.mem_iff_getElem.1 hx
    rw [List.length_take] at hi
    rw [List.getElem_take]
    exact Int.ne_of_lt (h.rise i k hk (by omega))
  have h2 : cutNs (g.nodes.drop (k + 1)) g.nodes[k].id = g.nodes.drop (k + 1) := hs _ fun x hx => by
    obtain ⟨i, hi, rfl⟩ := List.mem_iff_getElem.1 hx
    rw [List.length_drop] at hi
    rw [List.getElem_drop]
    exact fun q => absurd (h.rise k (k + 1 + i) (by omega) (by omega)) (by rw [q]; omega)
  rw [List.eraseIdx_eq_take_drop_succ]
  have h3 : cutNs [g.nodes[k]] g.nodes[k].id = [] := by simp [cutNs]
  calc cutNs g.nodes g.nodes[k].id = cutNs (g.nodes.take k ++ [g.nodes[k]] ++ g.nodes.drop (k + 1)) g.nodes[k].id := by congr 1; rw [List.append_assoc]; exact e
    _ = _ := by
      unfold cutNs at *
      rw [List.filter_append, List.filter_append, h1, h2, h3, List.append_nil]
theorem cut_skip {es : List Ed} {j : Nat} (hj : j < es.length) {v : Int} (h : es[j].src = v ∨ es[j].dst = v) : cutEs (es.take (j + 1)) v = cutEs (es.take j) v := by
  rw [take_snoc' es j hj]
  unfold cutEs
  rw [List.filter_append]
  have : (decide (es[j].src ≠ v ∧ es[j].dst ≠ v)) = false := decide_eq_false (fun q => by rcases h with a | a; exact q.1 a; exact q.2 a)
  rw [List.filter_cons, this]
  simp
theorem cut_more {es : List Ed} {j : Nat} (hj : j < es.length) {v : Int} (h1 : es[j].src ≠ v) (h2 : es[j].dst ≠ v) : cutEs (es.take (j + 1)) v = cutEs (es.take j) v ++ [es[j]] := by
  rw [take_snoc' es j hj]
  unfold cutEs
  rw [List.filter_append]
  have : (decide (es[j].src ≠ v ∧ es[j].dst ≠ v)) = true := decide_eq_true ⟨h1, h2⟩
  rw [List.filter_cons, this]
  simp
theorem rep_edge {w : World} {S : Nat → Prop} (e : Ed) {a : Option Addr} {c : Nat} (hf : RFld w S (.slice a e.fields.length c) e.fields) (hz : Sz e.type) : Rep 5 EEd w S [.int .i64 e.id, .string e.type, .int .i64 e.src, .int .i64 e.dst, .slice a e.fields.length c] [e] :=
  ⟨rfl, fun k x hx => by
    have hk := (List.getElem?_eq_some_iff.1 hx).1
    obtain rfl : k = 0 := by simp at hk; omega
    simp at hx
    subst hx
    refine ⟨fun q => ([.int .i64 e.id, .string e.type, .int .i64 e.src, .int .i64 e.dst, .slice a e.fields.length c] : List Value).getD q undef, fun q hq => ?_, rfl, rfl, rfl, rfl, hf, hz⟩
    rcases (show q = 0 ∨ q = 1 ∨ q = 2 ∨ q = 3 ∨ q = 4 by omega) with rfl | rfl | rfl | rfl | rfl <;> rfl⟩
/-- within CutNodes' inner loop, behind the world W7: h's box stands at bh; of what was there nothing else has turned; h's edges lie in a row of the loop's own -/
structure Ih (W7 wr : World) (bh : Nat) (x ev : Value) (S : Nat → Prop) (es : List Ed) : Prop where
  gr : W7.grownBy wr (some bh)
  box : Bx wr bh x ev
  lt : bh < W7.heap.size
  row : ∃ news, wr.ownsRow W7.heap.size 73 5 ev es.length news ∧ Rep 5 EEd wr S news es
theorem Ih.step {W7 wr w' : World} {bh : Nat} {x ev : Value} {S : Nat → Prop} {es : List Ed} (h : Ih W7 wr bh x ev S es) (hb : Below wr.heap.size wr w') : Ih W7 w' bh x ev S es := by
  obtain ⟨news, h1, h2⟩ := h.row
  exact ⟨⟨hb.os.trans h.gr.os, hb.tape.trans h.gr.tape, hb.output.trans h.gr.output, Nat.le_trans h.gr.size hb.size, fun b hl hne => (hb.block b (Nat.lt_of_lt_of_le hl h.gr.size)).trans (h.gr.block b hl hne)⟩,
    h.box.block (hb.block _ h.box.lt), h.lt, news, own_kept h1 (fun b _ hl => hb.block b hl), h2.kept EEd.kept hb⟩
theorem Ih.cell {W7 wr : World} {bh : Nat} {x ev : Value} {S : Nat → Prop} {es : List Ed} (h : Ih W7 wr bh x ev S es) {b o : Nat} {v : Value} (hb : b ≠ bh) (hc : W7.cell? ⟨b, o, none⟩ = some v) : wr.cell? ⟨b, o, none⟩ = some v :=
  cell_kept (fun hl => h.gr.block b hl (fun e => hb (Option.some.inj e))) hc
theorem Ih.app {W7 wr w9 : World} {bh : Nat} {x ev : Value} {S : Nat → Prop} {es : List Ed} (h : Ih W7 wr bh x ev S es) (hS : ∀ b, S b → b < W7.heap.size ∧ b ≠ bh) (hg : wr.grownBy w9 ev.ownBlock) {g c : Nat} {us : List Value} {e : Ed} {news : List Value} (hrep : Rep 5 EEd wr S news es) (hrow : wr.ownsRow W7.heap.size 73 5 ev es.length news)
    (hown : w9.ownsRow W7.heap.size 73 5 (.slice (some ⟨g, 0, none⟩) (es.length + 1) c) (es.length + 1) (news ++ us)) (hus : Rep 5 EEd wr S us [e]) :
    Ih W7 (w9.setCell ⟨bh, 1, none⟩ (.slice (some ⟨g, 0, none⟩) (es.length + 1) c)) bh x (.slice (some ⟨g, 0, none⟩) (es.length + 1) c) S (es ++ [e]) := by
  have hne : ∀ b, b < W7.heap.size → some b ≠ ev.ownBlock := fun b hb e => by have := (hrow.lt b e.symm).1; omega
  have hk9 : ∀ b, b < W7.heap.size → w9.heap[b]? = wr.heap[b]? := fun b hb => hg.block b (Nat.lt_of_lt_of_le hb h.gr.size) (hne b hb)
  have hbx := h.box.block (hk9 bh h.lt)
  refine ⟨⟨hg.os.trans h.gr.os, hg.tape.trans h.gr.tape, hg.output.trans h.gr.output, by simp [World.setCell]; exact Nat.le_trans h.gr.size hg.size, fun b hl hne2 => ?_⟩, ⟨?_, ?_, ?_, ?_⟩, h.lt, news ++ us, ?_, ?_⟩
  · exact (Below.heap_setCell _ _ _ _ (fun q => hne2 (by rw [q]))).trans ((hk9 b hl).trans (h.gr.block b hl hne2))
  · exact (World.cell?_setCell_other _ _ _ _ (by simp)).trans hbx.1
  · exact World.cell?_setCell_same _ _ _ hbx.2.1
  · exact (World.frozen?_setCell _ _ _ _).trans hbx.2.2.1
  · exact (World.frozen?_setCell _ _ _ _).trans hbx.2.2.2
  · rw [List.length_append]
    exact own_kept hown (fun b hb hl => Below.heap_setCell _ _ _ _ (by show b ≠ bh; have := h.lt; omega))
  · exact (hrep.append hus).keptS EEd.kept (fun b hb hl => (Below.heap_setCell _ _ _ _ (hS b hb).2).trans (hk9 b (hS b hb).1))
set_option maxHeartbeats 4000000 in
set_option maxRecDepth 100000 in
theorem cut_any (w : World) (hE : Env w) (S : Nat → Prop) (v : Value) (g : Gr) (h : RGr w S v g) : Calls Tryz.prog 22 #[v] w (CutR g w) := by
  have h0 := h
  obtain ⟨v1, v2, rfl, h1, h2⟩ := h
  obtain ⟨a1, c1, rfl⟩ := h1.shape
  obtain ⟨a2, c2, rfl⟩ := h2.shape
  obtain ⟨n1, hn1⟩ : ∃ n, g.nodes.length = n := ⟨_, rfl⟩
  obtain ⟨n2, hn2⟩ : ∃ n, g.edges.length = n := ⟨_, rfl⟩
  have HN1 := Lib.hid hn1
  have HN2 := Lib.hid hn2
  rw [hn1, hn2] at h0
  rw [hn1, hn2]
  clear h1 h2 hn1 hn2
  have hba := (Below.refl _ w).alloc (Nat.le_refl _) (.cells #[.slice a1 n1 c1, .slice a2 n2 c2] 32)
  have r1 := h0.below hba
  have hE1 := hE.below hba
  have x0 : (w.alloc (.cells #[.slice a1 n1 c1, .slice a2 n2 c2] 32)).cell? ⟨w.heap.size, 0, none⟩ = some (.slice a1 n1 c1) := by rw [World.cell?_alloc_mark]; rfl
  have x1 : (w.alloc (.cells #[.slice a1 n1 c1, .slice a2 n2 c2] 32)).cell? ⟨w.heap.size, 1, none⟩ = some (.slice a2 n2 c2) := by rw [World.cell?_alloc_mark]; rfl
  cases hg : gOk g with
  | false =>
    go_enter Tryz.func22, Tryz.ntmps22
    go_wp2_with (go_at_call 33; refine (graphOk_is _ hE1 _ _ _ _ hg r1).mono ?_; rintro e w1 ⟨rfl, hb1⟩)
    go_ret
    exact ⟨[], ⟨(fun _ => rfl), (fun h => by rw [hg] at h; cases h)⟩, IntsR.nil _ _ _ _ (hba.trans (hb1.mono hba.size))⟩
  | true =>
    have hw := gw_of hg
    have hlen := hw.e
    rw [HN2.out] at hlen
    have hids : ∀ id ∈ idsOf g.nodes, 1 ≤ id := fun id hi => (hw.id id hi).1
    have hkl : (idsOf g.nodes).length < 1048576 := by unfold idsOf; rw [List.length_map]; have := hw.n; omega
    go_enter Tryz.func22, Tryz.ntmps22
    go_upto_region 4 with (first
      | (go_at_call 33; refine (graphOk_is _ hE1 _ _ _ _ hg r1).mono ?_; rintro e w1 ⟨rfl, hb1⟩; have r2 := r1.below hb1; have y0 := cell_kept (fun hl => hb1.block _ hl) x0; have y1 := cell_kept (fun hl => hb1.block _ hl) x1)
      | (go_at_call 34; refine (parts_gw _ S _ g r2 hw).mono ?_; rintro e w2 ⟨bm, f, rfl, hm, hpart, hbm, hb2⟩; have z0 := cell_kept (fun hl => hb2.block _ hl) y0; have z1 := cell_kept (fun hl => hb2.block _ hl) y1; have r3 := r2.below hb2))
    have q0 := z0
    have q1 := z1
    have r4 := r3.within
    obtain ⟨n, hcomp⟩ := comps_there hw hpart
    have HCOMP := Lib.hid hcomp
    have hbA : Below w.heap.size w w2 := (hba.trans (hb1.mono hba.size)).trans (hb2.mono (Nat.le_trans hba.size hb1.size))
    clear hba hb1 hb2 r1 r2 r3 x0 x1 y0 y1 z0 z1 hcomp hE1 h0
    have hzb := lt_of_cell q0
    obtain ⟨bg, hbg⟩ : ∃ b, w.heap.size = b := ⟨_, rfl⟩
    have HB := Lib.hid hbg
    rw [hbg] at q0 q1 hzb
    simp only [hbg]
    clear hbg
    obtain ⟨S4, hS4, r4⟩ : ∃ S4 : Nat → Prop, (∀ b, S4 b → b < w2.heap.size) ∧ RGr w2 S4 (.agg #[.slice a1 n1 c1, .slice a2 n2 c2]) g := ⟨_, fun b hb => hb.2, r4⟩
    go_wp2_with fail
    go_loopw [4, 6, 7, 9, 18] (fun out _ _ _ i wr => ∃ (k : Nat) (cs : Nat → Nat), k ≤ n1 ∧ i = .int .i64 k ∧ Below w2.heap.size w2 wr ∧ (∀ j (hj : j < k) (hk : j < g.nodes.length), nbr g.edges g.nodes[j].id = true → Comps (idsOf (cutNs g.nodes g.nodes[j].id)) (cutEs g.edges g.nodes[j].id) (cs j)) ∧ wr.ownsRow w2.heap.size 2 1 out (pickN (fun k => (g.nodes.getD k n0).id) (fun k => nbr g.edges (g.nodes.getD k n0).id && decide (n < cs k)) k).length ((pickN (fun k => (g.nodes.getD k n0).id) (fun k => nbr g.edges (g.nodes.getD k n0).id && decide (n < cs k)) k).map (Value.int .i64))) (fun _ _ _ _ i wr => n1 - (intOf i).toNat)
    case atStart => exact ⟨0, fun _ => 0, by omega, rfl, Below.refl _ _, fun j hj => by omega, World.ownsRow_nil _ _ _ _⟩
    case round =>
      obtain ⟨k, cs, hk, rfl, hb, hcs, hown⟩ := hrel
      have q0 := cell_kept (fun hl => hb.block _ hl) q0
      have q1 := cell_kept (fun hl => hb.block _ hl) q1
      by_cases hlt : k < n1
      · have f0 : decide ((k : Int) < n1) = true := decide_eq_true (by omega)
        have f0' : decide (k < n1) = true := decide_eq_true hlt
        have hlt2 : (k : Int) < n1 := by omega
        have hltN : k < g.nodes.length := by rw [HN1.out]; exact hlt
        have hn1n := hw.n
        rw [HN1.out] at hn1n
        have r5 := r4.below hb
        obtain ⟨u1, u2, hu, hN, hEd⟩ := r5
        injection hu with hu
        have hu := Array.mk.inj hu
        simp only [List.cons.injEq, and_true] at hu
        obtain ⟨rfl, rfl⟩ := hu
        obtain ⟨b, o, l5, d5, l2, d2, rfl, hS0, hc, hcl, hcf, _, _⟩ := RNd.at hN hltN
        obtain ⟨news, hrep, hat⟩ := hN.cells
        have hone := hrep.one (by decide) (fun f x h => ENd.one h)
        have hnl : news.length = n1 * 3 := by rw [hrep.1, HN1.out]
        obtain ⟨xi, hxi⟩ : ∃ xi, g.nodes[k].id = xi := ⟨_, rfl⟩
        obtain ⟨xl, hxl⟩ : ∃ xl, g.nodes[k].labels.length = xl := ⟨_, rfl⟩
        obtain ⟨xf, hxf⟩ : ∃ xf, g.nodes[k].fields.length = xf := ⟨_, rfl⟩
        have hone2 : ∀ j (hj : j < g.nodes.length), j ≠ k → g.nodes[j].id ≠ xi := fun j hj hne e => hne (gOk_inj hw hj hltN (e.trans hxi.symm))
        rw [hxi] at hc
        rw [hxl] at hcl
        rw [hxf] at hcf
        have HXI := Lib.hid hxi
        clear hxi hxl hxf
        go_upto_region 8 with fail
        have hbe := (Below.refl _ wr).alloc (Nat.le_refl _) (.cells #[.int .i64 xi, .slice l5 xl d5, .slice l2 xf d2] 55)
        have ec : (wr.alloc (.cells #[.int .i64 xi, .slice l5 xl d5, .slice l2 xf d2] 55)).cell? ⟨wr.heap.size, 0, none⟩ = some (.int .i64 xi) := by rw [World.cell?_alloc_mark]; rfl
        have hes : (wr.alloc (.cells #[.int .i64 xi, .slice l5 xl d5, .slice l2 xf d2] 55)).heap.size = wr.heap.size + 1 := by simp
        generalize wr.alloc (.cells #[.int .i64 xi, .slice l5 xl d5, .slice l2 xf d2] 55) = W2 at hbe ec hes ⊢
        obtain ⟨bn, hbn⟩ : ∃ b, wr.heap.size = b := ⟨_, rfl⟩
        simp only [hbn]
        rw [hbn] at ec hes
        have HBN := Lib.hid hbn
        have HES := Lib.hid hes
        clear hc hcl hcf hes hbn
        have q0 := cell_kept (fun hl => hbe.block _ hl) q0
        have q1 := cell_kept (fun hl => hbe.block _ hl) q1
        obtain ⟨m, hmn⟩ : ∃ m, n1 = m + 1 := ⟨n1 - 1, by omega⟩
        have HMN := Lib.hid hmn
        have hclone : Calls Tryz.prog 48 #[.slice (some ⟨b, o, none⟩) n1 c1] W2 (fun e w' => ∃ gC cC, e = .returned (.slice (some ⟨gC, 0, none⟩) n1 cC) ∧ W2.heap.size ≤ gC ∧ gC < w'.heap.size ∧ At w' gC 0 news ∧ n1 ≤ cC ∧ cC ≤ maxLen ∧ (∀ o, w'.frozen? ⟨gC, o, none⟩ = false) ∧ Below W2.heap.size W2 w') :=
          (cloneNd_any W2 b o n1 c1 news hnl (by omega) (fun j x hx => cell_kept (fun hl => hbe.block _ hl) (hat j x hx)) hone).mono fun e w' hq => by
            obtain ⟨v', rfl, ho, hbb⟩ := hq
            obtain ⟨gC, cC, rfl, t1, t2, t3, t4, t5, t6⟩ := own_at ho (by omega)
            exact ⟨gC, cC, rfl, t1, t2, t3, t4, t5, t6, hbb⟩
        have hdel : ∀ w5 gC cC, W2.heap.size ≤ gC → gC < w5.heap.size → At w5 gC 0 news → n1 ≤ cC → cC ≤ maxLen → (∀ o, w5.frozen? ⟨gC, o, none⟩ = false) → Below W2.heap.size W2 w5 → Calls Tryz.prog 47 #[.slice (some ⟨gC, 0, none⟩) n1 cC, .func (.func 49) #[] #[.pointer (some ⟨bn, 0, none⟩)]] w5 (fun e w' => e = .returned (.slice (some ⟨gC, 0, none⟩) m cC) ∧ At w' gC 0 (news.take (k * 3) ++ news.drop ((k + 1) * 3)) ∧ w5.heap.size ≤ w'.heap.size ∧ Below W2.heap.size W2 w') := fun w5 gC cC t1 t2 t3 t4 t5 t6 hB => by
          have hbw := hbe.trans (hB.mono hbe.size)
          have hlow := hb.size
          have e1 := HBN.out
          have e2 := HES.out
          have := deleteNd_any w5 S4 gC m cC k news g.nodes (hrep.kept ENd.kept hbw) (fun b hb => by have := hS4 b hb; omega) (by rw [HN1.out]; exact hmn) (by omega) hltN (by omega) t5 t3 t6 bn xi (cell_kept (fun hl => hB.block _ hl) ec) (by omega) HXI.out hone2
          rw [← hmn] at this
          exact this.mono fun e w' ⟨z1, z2, z3⟩ => ⟨z1, z2, z3.size, grown_below hB z3 (fun q hq => by have := Option.some.inj hq; omega) (Nat.le_refl _)⟩
        clear hmn
        go_upto_region 9 with (first
          | (go_at_call 48; refine hclone.mono ?_; rintro e w5 ⟨gC, cC, rfl, t1, t2, t3, t4, t5, t6, hB5⟩)
          | (go_at_call 47; refine (hdel w5 gC cC t1 t2 t3 t4 t5 t6 hB5).mono ?_; rintro e w6 ⟨rfl, t7, h56, hB6⟩))
        have hbx := bx_new w6 (.slice (some ⟨gC, 0, none⟩) m cC) (.slice none 0 0) 32
        have hB7 := hB6.alloc hB6.size (.cells #[.slice (some ⟨gC, 0, none⟩) m cC, .slice none 0 0] 32)
        have hAt7 : At (w6.alloc (.cells #[.slice (some ⟨gC, 0, none⟩) m cC, .slice none 0 0] 32)) gC 0 (news.take (k * 3) ++ news.drop ((k + 1) * 3)) := fun j u hj => cell_alloc (t7 j u hj) _
        have hgC7 : gC < w6.heap.size := Nat.lt_of_lt_of_le t2 h56
        have hB62 := hB6.size
        generalize w6.alloc (.cells #[.slice (some ⟨gC, 0, none⟩) m cC, .slice none 0 0] 32) = W7 at hbx hB7 hAt7 ⊢
        obtain ⟨bh, hbh⟩ : ∃ b, w6.heap.size = b := ⟨_, rfl⟩
        rw [hbh] at hbx hgC7 hB62
        simp only [hbh]
        clear hbh t1 t2 t3 t4 t5 t6 t7 hB5 hB6 hclone hdel
        have hbW7 := hbe.trans (hB7.mono hbe.size)
        have q0 := cell_kept (fun hl => hB7.block _ hl) q0
        have q1 := cell_kept (fun hl => hB7.block _ hl) q1
        have ec := cell_kept (fun hl => hB7.block _ (by rw [HES.out]; omega)) ec
        have hEd7 := hEd.below EEd.kept hbW7
        have hlow := hb.size
        have hnbh : bn ≠ bh := by have := HES.out; omega
        have hS7 : ∀ b, S4 b → b < W7.heap.size ∧ b ≠ bh := fun b hb => by have := hS4 b hb; have := HBN.out; have := HES.out; have := hbx.lt; omega
        have hI0 : Ih W7 W7 bh (.slice (some ⟨gC, 0, none⟩) m cC) (.slice none 0 0) S4 (cutEs (g.edges.take 0) xi) := ⟨⟨rfl, rfl, rfl, Nat.le_refl _, fun _ _ _ => rfl⟩, hbx, hbx.lt, [], World.ownsRow_nil _ _ _ _, rfl, fun k x hx => by simp [cutEs] at hx⟩
        clear hbx
        go_wp2_with fail
        go_loopw [9, 31] (fun _ jv wr' => ∃ (j : Nat) (ev : Value), j ≤ n2 ∧ jv = .int .i64 j ∧ Ih W7 wr' bh (.slice (some ⟨gC, 0, none⟩) m cC) ev S4 (cutEs (g.edges.take j) xi)) (fun _ jv _ => n2 - (intOf jv).toNat)
        case atStart => exact ⟨0, _, by omega, rfl, hI0⟩
        case round =>
          clear hI0
          obtain ⟨j, ev, hj, rfl, I⟩ := hrel
          by_cases hlj : j < n2
          · have g0 : decide ((j : Int) < n2) = true := decide_eq_true (by omega)
            have g0' : decide (j < n2) = true := decide_eq_true hlj
            have hlj2 : (j : Int) < n2 := by omega
            have hn2' : (n2 : Int) ≤ 400 := by omega
            have hjE : j < g.edges.length := by rw [HN2.out]; exact hlj
            have hEr := hEd7.kept EEd.kept (fun b hS hl => I.gr.block b hl (fun e => (hS7 b hS).2 (Option.some.inj e)))
            obtain ⟨bE, oE, l3, d3, rfl, -, ed0, ed1, ed2, ed3, ed4, hfl, hty⟩ := REd.at hEr hjE
            have hus := rep_edge g.edges[j] hfl hty
            have hsk := fun h => cut_skip hjE (v := xi) h
            have hmo := fun h1 h2 => cut_more hjE (v := xi) h1 h2
            generalize g.edges[j] = ed at ed0 ed1 ed2 ed3 ed4 hus hsk hmo
            obtain ⟨yi, yt, ys, yd, yf⟩ := ed
            simp only at ed0 ed1 ed2 ed3 ed4 hus hsk hmo
            obtain ⟨yl, hyl⟩ : ∃ x, yf.length = x := ⟨_, rfl⟩
            rw [hyl] at ed4 hus
            clear hyl hfl hty hEr
            go_upto_region 12 with fail
            have hbA3 := (Below.refl _ wr).alloc (Nat.le_refl _) (.cells #[.int .i64 yi, .string yt, .int .i64 ys, .int .i64 yd, .slice l3 yl d3] 73)
            have I3 := I.step hbA3
            have hus3 := hus.kept EEd.kept hbA3
            have c0 : (wr.alloc (.cells #[.int .i64 yi, .string yt, .int .i64 ys, .int .i64 yd, .slice l3 yl d3] 73)).cell? ⟨wr.heap.size, 0, none⟩ = some (.int .i64 yi) := by rw [World.cell?_alloc_mark]; rfl
            have c1 : (wr.alloc (.cells #[.int .i64 yi, .string yt, .int .i64 ys, .int .i64 yd, .slice l3 yl d3] 73)).cell? ⟨wr.heap.size, 1, none⟩ = some (.string yt) := by rw [World.cell?_alloc_mark]; rfl
            have c2' : (wr.alloc (.cells #[.int .i64 yi, .string yt, .int .i64 ys, .int .i64 yd, .slice l3 yl d3] 73)).cell? ⟨wr.heap.size, 2, none⟩ = some (.int .i64 ys) := by rw [World.cell?_alloc_mark]; rfl
            have c3 : (wr.alloc (.cells #[.int .i64 yi, .string yt, .int .i64 ys, .int .i64 yd, .slice l3 yl d3] 73)).cell? ⟨wr.heap.size, 3, none⟩ = some (.int .i64 yd) := by rw [World.cell?_alloc_mark]; rfl
            have c4 : (wr.alloc (.cells #[.int .i64 yi, .string yt, .int .i64 ys, .int .i64 yd, .slice l3 yl d3] 73)).cell? ⟨wr.heap.size, 4, none⟩ = some (.slice l3 yl d3) := by rw [World.cell?_alloc_mark]; rfl
            generalize wr.alloc (.cells #[.int .i64 yi, .string yt, .int .i64 ys, .int .i64 yd, .slice l3 yl d3] 73) = W8 at I3 hus3 c0 c1 c2' c3 c4 ⊢
            obtain ⟨be, hbe2⟩ : ∃ b, wr.heap.size = b := ⟨_, rfl⟩
            rw [hbe2] at c0 c1 c2' c3 c4
            simp only [hbe2]
            have ec8 := I3.cell hnbh ec
            clear ed0 ed1 ed2 ed3 ed4 hbA3 hbe2 hus
            by_cases hs : ys = xi
            · have hT := hsk (.inl hs)
              have g1 : (ys != xi) = false := by rw [bne_eq_false_iff_eq]; exact hs
              clear hs hsk hmo
              go_wp2_with fail
              go_round
              case rel => exact ⟨j + 1, ev, by omega, by go_num, by rw [hT]; exact I3⟩
              case measure => simp [intOf]; omega
            · have g1 : (ys != xi) = true := by rw [bne_iff_ne]; exact hs
              by_cases hd : yd = xi
              · have hT := hsk (.inr hd)
                have g2 : (yd != xi) = false := by rw [bne_eq_false_iff_eq]; exact hd
                clear hs hd hsk hmo
                go_wp2_with fail
                go_round
                case rel => exact ⟨j + 1, ev, by omega, by go_num, by rw [hT]; exact I3⟩
                case measure => simp [intOf]; omega
              · have hT := hmo hs hd
                have g2 : (yd != xi) = true := by rw [bne_iff_ne]; exact hd
                clear hs hd hsk hmo
                go_upto_region 13 with fail
                obtain ⟨i0, hi0, hz0, hz1, hz2⟩ := info_parts (show (Tryz.prog.info? 73).map (fun i => (i.zero, i.size, i.bytes)) = some (some (.agg #[.int .i64 0, .string ByteArray.empty, .int .i64 0, .int .i64 0, .slice none 0 0]), 5, 64) by kernel_rfl)
                have IA := I3.step ((Below.refl _ W8).alloc (Nat.le_refl _) (.cells #[.int .i64 yi, .string yt, .int .i64 ys, .int .i64 yd, .slice l3 yl d3] 73))
                have husA := hus3.kept EEd.kept ((Below.refl _ W8).alloc (Nat.le_refl _) (.cells #[.int .i64 yi, .string yt, .int .i64 ys, .int .i64 yd, .slice l3 yl d3] 73))
                obtain ⟨nI, hrowA, hrepA⟩ := IA.row
                have m1 := I3.box.2.1
                have hcl : (cutEs (g.edges.take j) xi).length ≤ 400 := Nat.le_trans (List.length_filter_le _ _) (by rw [List.length_take, HN2.out]; omega)
                have hbA8 : W7.heap.size ≤ W8.heap.size := I3.gr.size
                generalize cutEs (g.edges.take j) xi = ce at I I3 IA hrowA hrepA hT hcl
                go_wp2_with (at_builtin; refine wpList_append_lies _ rfl (.tmp 48) (.tmp 50) 30 rfl W7.heap.size 73 i0 _ 5 64 Tryz.underlying30 hi0 hz0 hz1 hz2 rfl (by decide) ev ce.length nI rfl hrowA ⟨_, 0, none⟩ 1 1 [.int .i64 yi, .string yt, .int .i64 ys, .int .i64 yd, .slice l3 yl d3] rfl rfl (World.news_of_block (new_block (by simp) _ _)) (by intro u hu; simp at hu; rcases hu with rfl | rfl | rfl | rfl | rfl <;> rfl) (by decide) (by unfold maxLen; omega) (by omega) (by simp; omega) _ rfl ?_; intro gg cap w9 hown9 hgrow9 hat9 hlt9; have hgrow9 : World.grownBy _ w9 ev.ownBlock := hgrow9; have hb9 := IA.box.block (hgrow9.block bh (Nat.lt_of_lt_of_le IA.lt IA.gr.size) (fun e => by have := (hrowA.lt _ e.symm).1; have := IA.lt; omega)); have n1' := hb9.2.1; have n3' := hb9.2.2.2)
                go_round
                case rel => exact ⟨j + 1, _, by omega, by go_num, by rw [hT]; exact IA.app hS7 hgrow9 hrepA hrowA hown9 husA⟩
                case measure => simp [intOf]; omega
          · have hj3 : j = n2 := by omega
            subst hj3
            have g0 : decide ((j : Int) < j) = false := decide_eq_false (by omega)
            rw [List.take_of_length_le (by rw [HN2.out]; omega)] at I
            have hWr := grown_below hbW7 I.gr (fun q hq => by have := Option.some.inj hq; have := HBN.out; have := HES.out; omega) (Nat.le_refl _)
            have hvid : xi ∈ idsOf g.nodes := by rw [← HXI.out]; exact ids_at hltN
            have hce := cut_erase hw hltN
            rw [HXI.out] at hce
            have hlen3 : (g.nodes.eraseIdx k).length = m := by rw [List.length_eraseIdx_of_lt hltN, HN1.out, HMN.out]; omega
            have hrN := (((hrep.kept ENd.kept hbW7).keptS ENd.kept (fun b hS hl => I.gr.block b hl (fun e => (hS7 b hS).2 (Option.some.inj e)))).mono ENd.mono (S' := fun _ => True) (fun _ _ => trivial)).erase hltN
            have hrN2 := hrN.row (c := cC) (b := gC) (o := 0) (fun c u hu => I.cell (by omega) (hAt7 c u hu)) trivial (by rw [hlen3]; have := HMN.out; omega)
            rw [hlen3, ← hce] at hrN2
            obtain ⟨nI, hrowI, hrepI⟩ := I.row
            obtain ⟨ae, cE, rfl, hrE⟩ := row_of_own hrowI (hrepI.mono EEd.mono (S' := fun _ => True) (fun _ _ => trivial)) (fun _ _ => trivial) rfl (Nat.le_trans (List.length_filter_le _ _) (by rw [HN2.out]; omega))
            have rr : RGr wr (fun _ => True) (.agg #[.slice (some ⟨gC, 0, none⟩) m cC, .slice ae (cutEs g.edges xi).length cE]) ⟨cutNs g.nodes xi, cutEs g.edges xi⟩ := ⟨_, _, rfl, hrN2, hrE⟩
            have hgl := gw_cut hw xi
            have hids2 : ∀ id ∈ idsOf (cutNs g.nodes xi), 1 ≤ id := fun id hi => hids id (mem_cutNs.1 hi).1
            have hkl2 : (idsOf (cutNs g.nodes xi)).length < 1048576 := by unfold idsOf; rw [List.length_map]; exact Nat.lt_of_le_of_lt (List.length_filter_le _ _) (by rw [HN1.out]; omega)
            have hmw := hm.below ((hb.trans (hWr.mono hb.size)).block bm hm.lt)
            have ecw := I.cell hnbh ec
            have m0 := I.box.1
            have m1 := I.box.2.1
            generalize (cutEs g.edges xi).length = L at rr m1 I ⊢
            clear hrN hrN2 hrowI hrepI hrE I hce
            go_upto_region 15 with fail
            have HIDS := Lib.hid hids2
            have HIDS1 := Lib.hid hids
            go_cut [18, 61] from 18 to 67 (fun iv bv wx => iv = .int .i64 k ∧ ∃ nk na : Nat, bv = .bool (decide (na < nk)) ∧ Comps (idsOf (cutNs g.nodes xi)) (cutEs g.edges xi) nk ∧ CardOf (fun x => ∃ id ∈ idsOf g.nodes, id ≠ xi ∧ f id = x) na ∧ Below wr.heap.size wr wx)
            case first =>
              have rrD := rr.below (below_drew wr)
              have tok : True := trivial
              have hxi0 : ∀ q, q ∈ idsOf (cutNs g.nodes xi) → q ≠ 0 := fun q hq => by have := HIDS.out q hq; omega
              clear hids2 hids
              go_region_law (first
                | (go_simp; go_at_call 34; refine (parts_gw _ _ _ _ rrD hgl).mono ?_; rintro e w7 ⟨bm2, f2, rfl, hm2, hpart2, hbm2, hb7⟩; have hb7' := (below_drew wr).trans (hb7.mono (below_drew wr).size); have ec7 := cell_kept (fun hl => hb7'.block _ hl) ecw)
                | (go_simp; go_at_call 43; clear tok; refine (count_any _ _ _ _ 0 hm2 (parts_pos hpart2 HIDS.out) hkl2).mono ?_; rintro e w8 ⟨nk, rfl, hcard2, hnb2, hb8⟩; have hb8' := hb7'.trans (hb8.mono hb7'.size); have ec8 := cell_kept (fun hl => hb8'.block _ hl) ecw; have hm8 := hmw.below (hb8'.block bm hmw.lt))
                | (go_simp; go_at_call 43; refine (count_any _ _ _ _ xi hm8 (parts_pos hpart HIDS1.out) hkl).mono ?_; rintro e w9 ⟨na, rfl, hcard3, hnb3, hb9⟩; have hb9' := hb8'.trans (hb9.mono hb8'.size)))
              all_goals
                go_wp2_with fail
                go_meet
                exact ⟨rfl, nk, na, rfl, comps_vals hpart2 (fun q => hxi0 0 q rfl) hcard2, hcard3, hb9'⟩
            case rest =>
              obtain ⟨rfl, nk, na, rfl, hcomp2, hcard3, hbx⟩ := hcut
              have htest := cut_test hw hpart hvid HCOMP.out hcomp2 hcard3
              have hW8 := hWr.trans (hbx.mono hWr.size)
              have hown8 := own_kept hown (fun b hb hl => hW8.block b hl)
              have hb38 := hb.trans (hW8.mono hb.size)
              have hec8 := cell_kept (fun hl => hbx.block _ hl) ecw
              have hcs8 : ∀ j (hj : j < k + 1) (hk : j < g.nodes.length), nbr g.edges g.nodes[j].id = true → Comps (idsOf (cutNs g.nodes g.nodes[j].id)) (cutEs g.edges g.nodes[j].id) (set1 cs k nk j) := fun j hj hj2 hnj => by
                by_cases e : j = k
                · subst e; rw [set1_same]
                  have e2 := HXI.out
                  simp only [e2]
                  exact hcomp2
                · rw [set1_other (by omega)]; exact hcs j (by omega) hj2 hnj
              have hPL := pickN_len (fun k => (g.nodes.getD k n0).id) (fun k => nbr g.edges (g.nodes.getD k n0).id && decide (n < cs k)) k
              have hdec : ∀ j, j < k → (nbr g.edges (g.nodes.getD j n0).id && decide (n < set1 cs k nk j)) = (nbr g.edges (g.nodes.getD j n0).id && decide (n < cs j)) := fun j hj => by rw [set1_other hj]
              obtain ⟨bq, hbq⟩ : ∃ b, decide (na < nk) = b := ⟨_, rfl⟩
              rw [hbq] at htest ⊢
              have HT := Lib.hid htest
              have HCS := Lib.hid hcs8
              clear hcomp2 hcard3 htest hbx hcs hown hW8 hWr hmw rr hgl hids2 hkl2 m0 m1 hbq ecw hcs8
              cases bq with
              | true =>
                have hpm := pick_more (id := fun k => (g.nodes.getD k n0).id) (dec := fun k => nbr g.edges (g.nodes.getD k n0).id && decide (n < cs k)) (dec' := fun j => nbr g.edges (g.nodes.getD j n0).id && decide (n < set1 cs k nk j)) hdec (by rw [set1_same, getD_eq hltN, HXI.out]; exact HT.out.symm)
                simp only [getD_eq hltN, HXI.out] at hpm
                generalize pickN (fun k => (g.nodes.getD k n0).id) (fun k => nbr g.edges (g.nodes.getD k n0).id && decide (n < cs k)) k = P at hown8 hPL hpm
                obtain ⟨i0, hi0, hz0, hz1, hz2⟩ := info_parts (show (Tryz.prog.info? 2).map (fun i => (i.zero, i.size, i.bytes)) = some (some (.int .i64 0), 1, 8) by kernel_rfl)
                have hsz8 := hb38.size
                have hP2 : P.length ≤ 400 := by omega
                go_wp2_with (at_builtin; refine wpList_append_lies _ rfl (.tmp 62) (.tmp 65) 39 rfl w2.heap.size 2 i0 (.int .i64 0) 1 8 Tryz.underlying39 hi0 hz0 hz1 hz2 rfl (by decide) _ P.length (P.map (Value.int .i64)) rfl (hown8.alloc _) ⟨_, 0, none⟩ 1 1 [.int .i64 xi] rfl rfl (new_cells (by simp) _ _) (by intro u hu; simp at hu; subst hu; rfl) (by decide) (by unfold maxLen; omega) (by omega) (by simp; omega) _ rfl ?_; intro gg cap w9 hown9 hgrow9 hat9 hlt9; have hgrow9 : World.grownBy _ w9 u4.ownBlock := hgrow9)
                go_round
                case rel =>
                  refine ⟨k + 1, set1 cs k nk, by omega, by go_num, ?_, HCS.out, ?_⟩
                  · exact (hb38.alloc hsz8 _).grown hgrow9 (by simp; omega) (fun q hq => (hown8.lt q hq).1)
                  · rw [hpm, List.length_append, List.map_append]; exact hown9
                case measure => simp [intOf]; omega
              | false =>
                have hpm := pick_same (id := fun k => (g.nodes.getD k n0).id) (dec := fun k => nbr g.edges (g.nodes.getD k n0).id && decide (n < cs k)) (dec' := fun j => nbr g.edges (g.nodes.getD j n0).id && decide (n < set1 cs k nk j)) hdec (by rw [set1_same, getD_eq hltN, HXI.out]; exact HT.out.symm)
                go_wp2_with fail
                go_round
                case rel => exact ⟨k + 1, set1 cs k nk, by omega, by go_num, hb38, HCS.out, by rw [hpm]; exact hown8⟩
                case measure => simp [intOf]; omega
      · have hk3 : k = n1 := by omega
        subst hk3
        have f0 : decide ((k : Int) < k) = false := decide_eq_false (by omega)
        go_wp2_with fail
        go_ret
        obtain ⟨t1, t2⟩ := own_rint hown (by have := pickN_len (fun k => (g.nodes.getD k n0).id) (fun k => nbr g.edges (g.nodes.getD k n0).id && decide (n < cs k)) k; have := hw.n; rw [HN1.out] at this; omega)
        have hbz := hbA.trans (hb.mono hbA.size)
        refine ⟨_, ⟨(fun h => by rw [hg] at h; cases h), fun _ => ⟨n, cs, HCOMP.out, fun j hj => hcs j (by rw [← HN1.out]; exact hj) hj, rfl⟩⟩, _, rfl, ?_, ?_, hbz⟩
        · rw [HN1.out]; exact t1.mono EInt.mono (fun b hb => Nat.le_trans hbA.size hb)
        · rw [HN1.out]; exact Own.low t2 hbA.size
end Go.Proofs.YtaoccbhdlkflfaaGreatDoor
