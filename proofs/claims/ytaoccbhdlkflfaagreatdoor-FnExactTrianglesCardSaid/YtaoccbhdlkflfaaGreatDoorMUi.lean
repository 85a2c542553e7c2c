/- Texts of one proof, joined in their order: each bears its own word of what it holds and on what condition. -/
import Derived.Test.YtaoccbhdlkflfaaGreatDoorMP
import Derived.Test.YtaoccbhdlkflfaaGreatDoorMN
import Derived.Deep.CutRange
set_option linter.unusedVariables false
set_option linter.unusedSimpArgs false
/- impl's Bridges, whole. Condition: the library's variables are as they were laid. -/
set_option linter.unusedVariables false
set_option linter.unusedSimpArgs false
namespace Go.Proofs.YtaoccbhdlkflfaaGreatDoor
open Go.RowKit Go.Sort

def BrR (g : Gr) (w : World) (e : Ending) (w' : World) : Prop := ∃ xs, BrX g xs ∧ IntsR xs w e w'
theorem IntsR.nil (w w' : World) (c : Nat) (a : Option Addr) (h : Below w.heap.size w w') : IntsR [] w (.returned (.slice a 0 c)) w' :=
  ⟨_, rfl, ⟨a, c, rfl, by simp, fun k x hx => by simp at hx⟩, ⟨a, c, rfl, .inl rfl⟩, h⟩
/-- the number of parts of a graph, as impl has it -/
theorem parts_pos {ks : List Int} {es : List Ed} {f : Int → Int} (h : IsPart ks es f) (hp : ∀ id ∈ ks, 1 ≤ id) : ∀ id ∈ ks, f id ≠ 0 := fun id hid => by
  have := hp _ (h id hid).1
  omega
theorem cell_alloc {u : World} {b o : Nat} {x : Value} (h : u.cell? ⟨b, o, none⟩ = some x) (ob : Obj) : (u.alloc ob).cell? ⟨b, o, none⟩ = some x := cell_kept (fun hl => ((Below.refl _ u).alloc (Nat.le_refl _) ob).block _ hl) h
theorem withIt {A B : Prop} (a : A) (f : A → B) : B := f a
/-- a box of two cells -/
def Bx (W : World) (b : Nat) (x y : Value) : Prop := W.cell? ⟨b, 0, none⟩ = some x ∧ W.cell? ⟨b, 1, none⟩ = some y ∧ W.frozen? ⟨b, 0, none⟩ = false ∧ W.frozen? ⟨b, 1, none⟩ = false
theorem bx_new (u : World) (x y : Value) (T : Nat) : Bx (u.alloc (.cells #[x, y] T)) u.heap.size x y :=
  ⟨by rw [World.cell?_alloc_mark]; rfl, by rw [World.cell?_alloc_mark]; rfl, by rw [World.frozen?_alloc_mark]; simp, by rw [World.frozen?_alloc_mark]; simp⟩
theorem Bx.block {W W' : World} {b : Nat} {x y : Value} (h : Bx W b x y) (hb : W'.heap[b]? = W.heap[b]?) : Bx W' b x y :=
  ⟨(World.cell?_of_block (a := ⟨b, 0, none⟩) hb).trans h.1, (World.cell?_of_block (a := ⟨b, 1, none⟩) hb).trans h.2.1, (World.frozen?_of_block (a := ⟨b, 0, none⟩) hb).trans h.2.2.1, (World.frozen?_of_block (a := ⟨b, 1, none⟩) hb).trans h.2.2.2⟩
theorem Bx.lt {W : World} {b : Nat} {x y : Value} (h : Bx W b x y) : b < W.heap.size := lt_of_cell h.1
theorem bx_of {u w' : World} {x y : Value} {T : Nat} (h : Below (u.alloc (.cells #[x, y] T)).heap.size (u.alloc (.cells #[x, y] T)) w') : Bx w' u.heap.size x y := (bx_new u x y T).block (h.block _ (bx_new u x y T).lt)
theorem bx_ofd {u w' : World} {x y : Value} {T : Nat} (h : Below (u.alloc (.cells #[x, y] T)).drew.heap.size (u.alloc (.cells #[x, y] T)).drew w') : Bx w' u.heap.size x y := (bx_new u x y T).block (h.block _ (bx_new u x y T).lt)
theorem bx_grown {u w' : World} {x y : Value} {T g : Nat} (h : (u.alloc (.cells #[x, y] T)).grownBy w' (some g)) (hg : g ≠ u.heap.size) : Bx w' u.heap.size x y := (bx_new u x y T).block (h.block _ (bx_new u x y T).lt (fun e => hg (by injection e with e; exact e.symm)))
theorem bx_kept {W W' : World} {b g : Nat} {x y : Value} (h : W.grownBy W' (some g)) (hg : g ≠ b) (hB : Bx W b x y) : Bx W' b x y := hB.block (h.block _ hB.lt (fun e => hg (by injection e with e; exact e.symm)))
/-- the graph without one edge, in a box of the call's own -/
def Hx (W2 : World) (x : Value) (m : Nat) (ns : List Value) (v : Value) (W : World) : Prop := ∃ bh gC cC, v = .pointer (some ⟨bh, 0, none⟩) ∧ Bx W bh x (.slice (some ⟨gC, 0, none⟩) m cC) ∧ At W gC 0 ns ∧ Below W2.heap.size W2 W
theorem hx_new {W2 w6 : World} {x : Value} {m gC cC T : Nat} {ns : List Value} (h : At w6 gC 0 ns) (hb : Below W2.heap.size W2 w6) : Hx W2 x m ns (.pointer (some ⟨w6.heap.size, 0, none⟩)) (w6.alloc (.cells #[x, .slice (some ⟨gC, 0, none⟩) m cC] T)) :=
  ⟨_, gC, cC, rfl, bx_new _ _ _ _, fun j u hj => cell_alloc (h j u hj) _, hb.alloc hb.size _⟩
theorem hx_set {W2 w6 : World} {x z z' : Value} {m gC cC bh : Nat} {ns : List Value} (h : At w6 gC 0 ns) (hb : Below W2.heap.size W2 w6) (hB : Bx w6 bh z z') (hg : gC ≠ bh) (hbh : W2.heap.size ≤ bh) : Hx W2 x m ns (.pointer (some ⟨bh, 0, none⟩)) ((w6.setCell ⟨bh, 0, none⟩ x).setCell ⟨bh, 1, none⟩ (.slice (some ⟨gC, 0, none⟩) m cC)) := by
  refine ⟨_, gC, cC, rfl, ⟨?_, ?_, ?_, ?_⟩, fun j u hj => ?_, ⟨hb.os, hb.tape, hb.output, by simp [World.setCell]; exact hb.size, fun b hl => ?_⟩⟩
  · exact (World.cell?_setCell_other _ _ _ _ (by simp)).trans (World.cell?_setCell_same _ _ _ hB.1)
  · exact World.cell?_setCell_same _ _ _ ((World.cell?_setCell_other _ _ _ _ (by simp)).trans hB.2.1)
  · exact (World.frozen?_setCell _ _ _ _).trans ((World.frozen?_setCell _ _ _ _).trans hB.2.2.1)
  · exact (World.frozen?_setCell _ _ _ _).trans ((World.frozen?_setCell _ _ _ _).trans hB.2.2.2)
  · exact (World.cell?_setCell_other _ _ _ _ (fun e => hg (by injection e with e _; exact e.symm))).trans ((World.cell?_setCell_other _ _ _ _ (fun e => hg (by injection e with e _; exact e.symm))).trans (h j u hj))
  · exact (Below.heap_setCell _ _ _ _ (by show b ≠ bh; omega)).trans ((Below.heap_setCell _ _ _ _ (by show b ≠ bh; omega)).trans (hb.block b hl))
set_option maxHeartbeats 4000000 in
set_option maxRecDepth 100000 in
theorem bridges_any (w : World) (hE : Env w) (S : Nat → Prop) (v : Value) (g : Gr) (h : RGr w S v g) : Calls Tryz.prog 17 #[v] w (BrR g w) := by
  have h0 := h
  obtain ⟨v1, v2, rfl, h1, h2⟩ := h
  obtain ⟨a1, c1, rfl⟩ := h1.shape
  obtain ⟨a2, c2, rfl⟩ := h2.shape
  obtain ⟨n1, hn1⟩ : ∃ n, g.nodes.length = n := ⟨_, rfl⟩
  obtain ⟨n2, hn2⟩ : ∃ n, g.edges.length = n := ⟨_, rfl⟩
  have HN1 := Lib.hid hn1
  have HN2 := Lib.hid hn2
  rw [hn1, hn2] at h0
  rw [hn1, hn2]
  clear h1 h2 hn1 hn2
  have hba := (Below.refl _ w).alloc (Nat.le_refl _) (.cells #[.slice a1 n1 c1, .slice a2 n2 c2] 32)
  have r1 := h0.below hba
  have hE1 := hE.below hba
  have x0 : (w.alloc (.cells #[.slice a1 n1 c1, .slice a2 n2 c2] 32)).cell? ⟨w.heap.size, 0, none⟩ = some (.slice a1 n1 c1) := by rw [World.cell?_alloc_mark]; rfl
  have x1 : (w.alloc (.cells #[.slice a1 n1 c1, .slice a2 n2 c2] 32)).cell? ⟨w.heap.size, 1, none⟩ = some (.slice a2 n2 c2) := by rw [World.cell?_alloc_mark]; rfl
  cases hg : gOk g with
  | false =>
    go_enter Tryz.func17, Tryz.ntmps17
    go_wp2_with (go_at_call 33; refine (graphOk_is _ hE1 _ _ _ _ hg r1).mono ?_; rintro e w1 ⟨rfl, hb1⟩)
    go_ret
    exact ⟨[], ⟨(fun _ => rfl), (fun h => by rw [hg] at h; cases h)⟩, IntsR.nil _ _ _ _ (hba.trans (hb1.mono hba.size))⟩
  | true =>
    have hw := gw_of hg
    have hlen := hw.e
    rw [HN2.out] at hlen
    have hids : ∀ id ∈ idsOf g.nodes, 1 ≤ id := fun id hi => (hw.id id hi).1
    have hkl : (idsOf g.nodes).length < 1048576 := by unfold idsOf; rw [List.length_map]; have := hw.n; omega
    go_enter Tryz.func17, Tryz.ntmps17
    go_upto_region 4 with (first
      | (go_at_call 33; refine (graphOk_is _ hE1 _ _ _ _ hg r1).mono ?_; rintro e w1 ⟨rfl, hb1⟩; have r2 := r1.below hb1; have y0 := cell_kept (fun hl => hb1.block _ hl) x0; have y1 := cell_kept (fun hl => hb1.block _ hl) x1)
      | (go_at_call 34; refine (parts_gw _ S _ g r2 hw).mono ?_; rintro e w2 ⟨bm, f, rfl, hm, hpart, hbm, hb2⟩; have z0 := cell_kept (fun hl => hb2.block _ hl) y0; have z1 := cell_kept (fun hl => hb2.block _ hl) y1; have r3 := r2.below hb2)
      | (go_at_call 43; refine (count_any _ _ _ _ 0 hm (parts_pos hpart hids) hkl).mono ?_; rintro e w3 ⟨n, rfl, hcard, hnb, hb3⟩))
    have q0 := cell_kept (fun hl => hb3.block _ hl) z0
    have q1 := cell_kept (fun hl => hb3.block _ hl) z1
    have r4 := r3.below hb3
    have hcomp := comps_vals hpart (fun q => by have := hids _ q; omega) hcard
    have hbA : Below w.heap.size w w3 := ((hba.trans (hb1.mono hba.size)).trans (hb2.mono (Nat.le_trans hba.size hb1.size))).trans (hb3.mono (Nat.le_trans hba.size (Nat.le_trans hb1.size hb2.size)))
    clear hba hb1 hb2 hb3 r1 r2 r3 x0 x1 y0 y1 z0 z1 hm hcard hE1 h0
    have hzb := lt_of_cell q0
    obtain ⟨bg, hbg⟩ : ∃ b, w.heap.size = b := ⟨_, rfl⟩
    have HB := Lib.hid hbg
    rw [hbg] at q0 q1 hzb
    simp only [hbg]
    clear hbg
    go_wp2_with fail
    go_loopw [4, 5, 6, 7, 17] (fun out _ _ _ i wr => ∃ (k : Nat) (cs : Nat → Nat), k ≤ n2 ∧ i = .int .i64 k ∧ Below w3.heap.size w3 wr ∧ (∀ j, j < k → Comps (idsOf g.nodes) (g.edges.eraseIdx j) (cs j)) ∧ wr.ownsRow w3.heap.size 2 1 out (pickN (fun k => (g.edges.getD k d0).id) (fun k => decide (n < cs k)) k).length ((pickN (fun k => (g.edges.getD k d0).id) (fun k => decide (n < cs k)) k).map (Value.int .i64))) (fun _ _ _ _ i wr => n2 - (intOf i).toNat)
    case atStart => exact ⟨0, fun _ => 0, by omega, rfl, Below.refl _ _, fun j hj => by omega, World.ownsRow_nil _ _ _ _⟩
    case round =>
      obtain ⟨k, cs, hk, rfl, hb, hcs, hown⟩ := hrel
      have q0 := cell_kept (fun hl => hb.block _ hl) q0
      have q1 := cell_kept (fun hl => hb.block _ hl) q1
      by_cases hlt : k < n2
      · have f0 : decide ((k : Int) < n2) = true := decide_eq_true (by omega)
        have f0' : decide (k < n2) = true := decide_eq_true hlt
        have hlt2 : (k : Int) < n2 := by omega
        have hltE : k < g.edges.length := by rw [HN2.out]; exact hlt
        have hn2' : (n2 : Int) ≤ 400 := by omega
        have r5 := r4.below hb
        obtain ⟨u1, u2, hu, hN, hEd⟩ := id r5
        injection hu with hu
        have hu := Array.mk.inj hu
        simp only [List.cons.injEq, and_true] at hu
        obtain ⟨rfl, rfl⟩ := hu
        obtain ⟨b, o, l2, d2, rfl, hS0, hc, hct, hcs_, hcd, hcf, _, _⟩ := REd.at hEd hltE
        obtain ⟨news, hrep, hat⟩ := hEd.cells
        have hone := hrep.one (by decide) (fun f x h => EEd.one h)
        have hnl : news.length = n2 * 5 := by rw [hrep.1, HN2.out]
        obtain ⟨xi, hxi⟩ : ∃ xi, g.edges[k].id = xi := ⟨_, rfl⟩
        obtain ⟨xt, hxt⟩ : ∃ xt, g.edges[k].type = xt := ⟨_, rfl⟩
        obtain ⟨xs, hxs⟩ : ∃ xs, g.edges[k].src = xs := ⟨_, rfl⟩
        obtain ⟨xd, hxd⟩ : ∃ xd, g.edges[k].dst = xd := ⟨_, rfl⟩
        obtain ⟨xf, hxf⟩ : ∃ xf, g.edges[k].fields.length = xf := ⟨_, rfl⟩
        rw [hxi] at hc
        rw [hxt] at hct
        rw [hxs] at hcs_
        rw [hxd] at hcd
        rw [hxf] at hcf
        have HXI := Lib.hid hxi
        clear hxi hxt hxs hxd hxf
        go_upto_region 8 with fail
        have hbe := (Below.refl _ wr).alloc (Nat.le_refl _) (.cells #[.int .i64 xi, .string xt, .int .i64 xs, .int .i64 xd, .slice l2 xf d2] 73)
        have ec : (wr.alloc (.cells #[.int .i64 xi, .string xt, .int .i64 xs, .int .i64 xd, .slice l2 xf d2] 73)).cell? ⟨wr.heap.size, 0, none⟩ = some (.int .i64 xi) := by rw [World.cell?_alloc_mark]; rfl
        have hes : (wr.alloc (.cells #[.int .i64 xi, .string xt, .int .i64 xs, .int .i64 xd, .slice l2 xf d2] 73)).heap.size = wr.heap.size + 1 := by simp
        generalize wr.alloc (.cells #[.int .i64 xi, .string xt, .int .i64 xs, .int .i64 xd, .slice l2 xf d2] 73) = W2 at hbe ec hes ⊢
        obtain ⟨be, hbe2⟩ : ∃ b, wr.heap.size = b := ⟨_, rfl⟩
        simp only [hbe2]
        rw [hbe2] at ec hes
        have HES := Lib.hid hes
        clear hes
        clear hc hct hcs_ hcd hcf
        have q0 := cell_kept (fun hl => hbe.block _ hl) q0
        have q1 := cell_kept (fun hl => hbe.block _ hl) q1
        have hclone : ∀ u, Below W2.heap.size W2 u → Calls Tryz.prog 45 #[.slice (some ⟨b, o, none⟩) n2 c2] u (fun e w' => ∃ gC cC, e = .returned (.slice (some ⟨gC, 0, none⟩) n2 cC) ∧ u.heap.size ≤ gC ∧ gC < w'.heap.size ∧ At w' gC 0 news ∧ n2 ≤ cC ∧ cC ≤ maxLen ∧ (∀ o, w'.frozen? ⟨gC, o, none⟩ = false) ∧ Below u.heap.size u w' ∧ Below W2.heap.size W2 w' ∧ W2.heap.size ≤ gC) := fun u hu =>
          (cloneEd_any u b o n2 c2 news hnl (by omega) (fun j x hx => cell_kept (fun hl => (hbe.trans (hu.mono hbe.size)).block _ hl) (hat j x hx)) hone).mono fun e w' hq => by
            obtain ⟨v', rfl, ho, hbb⟩ := hq
            obtain ⟨gC, cC, rfl, t1, t2, t3, t4, t5, t6⟩ := own_at ho (by omega)
            exact ⟨gC, cC, rfl, t1, t2, t3, t4, t5, t6, hbb, hu.trans (hbb.mono hu.size), Nat.le_trans hu.size t1⟩
        obtain ⟨m, hmn⟩ : ∃ m, n2 = m + 1 := ⟨n2 - 1, by omega⟩
        have hdel : ∀ w5 gC cC, gC < w5.heap.size → At w5 gC 0 news → n2 ≤ cC → cC ≤ maxLen → (∀ o, w5.frozen? ⟨gC, o, none⟩ = false) → Below W2.heap.size W2 w5 → W2.heap.size ≤ gC → ∀ u, Below w5.heap.size w5 u → Calls Tryz.prog 44 #[.slice (some ⟨gC, 0, none⟩) n2 cC, .int .i64 k, .int .i64 ((k : Int) + 1)] u (fun e w' => e = .returned (.slice (some ⟨gC, 0, none⟩) m cC) ∧ At w' gC 0 (news.take (k * 5) ++ news.drop ((k + 1) * 5)) ∧ u.grownBy w' (some gC) ∧ Below W2.heap.size W2 w') := fun w5 gC cC t0 t1 t2 t3 t4 t5 t6 u hu => by
          have := deleteEd_any u gC m cC k news (by omega) (by omega) (by omega) (by omega) t3 (fun j x hx => cell_kept (fun hl => hu.block _ hl) (t1 j x hx)) hone (fun o => (World.frozen?_of_block (a := ⟨gC, o, none⟩) (hu.block gC t0)).trans (t4 o))
          rw [← hmn] at this
          refine this.mono fun e w' ⟨z1, z2, z3⟩ => ⟨z1, z2, z3, ?_⟩
          have hbu := t5.trans (hu.mono t5.size)
          exact ⟨z3.os.trans hbu.os, z3.tape.trans hbu.tape, z3.output.trans hbu.output, Nat.le_trans hbu.size z3.size, fun b hb => (z3.block b (Nat.lt_of_lt_of_le hb hbu.size) (fun e => by injection e with e; omega)).trans (hbu.block b hb)⟩
        have HMN := Lib.hid hmn
        clear hmn
        have hz1 : IntKind.i64.wrap ((k : Int) + 1) = (k : Int) + 1 := wrap64_of _ (by omega) (by omega)
        have hB0 : Below W2.heap.size W2 W2.drew := below_drew W2
        have HQ0 := Lib.hid q0
        have HQ1 := Lib.hid q1
        have qa0 := fun ob => cell_alloc q0 ob
        have qa1 := fun ob => cell_alloc q1 ob
        go_cut [7, 17] from 17 to 42 (fun hv iv wx => iv = .int .i64 k ∧ Hx W2 (.slice a1 n1 c1) m (news.take (k * 5) ++ news.drop ((k + 1) * 5)) hv wx)
        case first =>
          go_region_law (first
            | (go_simp; go_at_call 45; refine (hclone _ ?_).mono ?_; (first | exact hB0 | exact hB0.alloc (Nat.le_refl _) _); rintro e w5 ⟨gC, cC, rfl, t1, t2, t3, t4, t5, t6, hb5, hB5, hgC⟩; have q50 := cell_kept (fun hl => hB5.block _ hl) HQ0.out; have q51 := cell_kept (fun hl => hB5.block _ hl) HQ1.out; have qb0 := (fun ob => cell_alloc q50 ob); (first | (refine withIt (A := Hid (Bx w5 W2.heap.size (.slice none 0 0) (.slice none 0 0))) (Lib.hid (bx_of hb5)) ?_; intro M) | (refine withIt (A := Hid (Bx w5 W2.heap.size (.slice none 0 0) (.slice none 0 0))) (Lib.hid (bx_ofd hb5)) ?_; intro M) | skip))
            | (go_simp; go_at_call 44; refine (hdel w5 gC cC t2 t3 t4 t5 t6 hB5 hgC _ ?_).mono ?_; (first | exact Below.refl _ _ | exact (Below.refl _ _).alloc (Nat.le_refl _) _); rintro e w6 ⟨rfl, t7, t8, hB6⟩; have q60 := cell_kept (fun hl => hB6.block _ hl) HQ0.out; have q61 := cell_kept (fun hl => hB6.block _ hl) HQ1.out; have qc0 := (fun ob => cell_alloc q60 ob); (first | (refine withIt (bx_grown t8 ?_) ?_; (omega); rintro ⟨m0, m1, m2, m3⟩) | (refine withIt (bx_kept t8 ?_ M.out) ?_; (have := t1; simp at this; omega); rintro ⟨m0, m1, m2, m3⟩) | skip)))
          all_goals
            go_wp2_with fail
            go_meet
            refine ⟨rfl, ?_⟩
            first
            | exact hx_new t7 hB6
            | exact hx_set t7 hB6 ⟨m0, m1, m2, m3⟩ (by omega) hB5.size
            | exact hx_set t7 hB6 ⟨m0, m1, m2, m3⟩ (by have := t1; simp at this; omega) (Nat.le_refl _)
        case rest =>
          clear hclone hdel HQ0 HQ1 qa0 qa1 hB0 hz1
          obtain ⟨rfl, bh, gC, cC, rfl, ⟨m0, m1, -, -⟩, hAt, hB⟩ := hcut
          have hBw := hbe.trans (hB.mono hbe.size)
          have hec := cell_kept (fun hl => hB.block _ (by rw [HES.out]; omega)) ec
          have hel : (g.edges.eraseIdx k).length = m := by rw [List.length_eraseIdx_of_lt hltE, HN2.out, HMN.out]; omega
          have hrow := ((hrep.kept EEd.kept hBw).mono EEd.mono (S' := fun _ => True) (fun _ _ => trivial)).erase hltE
          have hrow2 := hrow.row (c := cC) hAt trivial (by rw [hel]; have := HMN.out; omega)
          rw [hel] at hrow2
          have rr : RGr wc (fun _ => True) (.agg #[.slice a1 n1 c1, .slice (some ⟨gC, 0, none⟩) m cC]) ⟨g.nodes, g.edges.eraseIdx k⟩ := ⟨_, _, rfl, (hN.below ENd.kept hBw).mono ENd.mono (fun _ _ => trivial), hrow2⟩
          clear hrow hrow2 hAt hrep hat hEd hN r5
          have hgl := gw_less hw k
          go_upto_region 10 with (first
            | (go_at_call 34; refine (parts_gw _ _ _ _ rr hgl).mono ?_; rintro e w7 ⟨bm2, f2, rfl, hm2, hpart2, hbm2, hb7⟩)
            | (go_at_call 43; refine (count_any _ _ _ _ 0 hm2 (parts_pos hpart2 hids) hkl).mono ?_; rintro e w8 ⟨nk, rfl, hcard2, hnb2, hb8⟩))
          all_goals
            have hcomp2 := comps_vals hpart2 (fun q => by have := hids _ q; omega) hcard2
            have hW8 : Below wr.heap.size wr w8 := hBw.trans ((hb7.trans (hb8.mono hb7.size)).mono hBw.size)
            have hown8 := own_kept hown (fun b hb hl => hW8.block b hl)
            have hb38 := hb.trans (hW8.mono hb.size)
            have hec8 := cell_kept (fun hl => (hb7.trans (hb8.mono hb7.size)).block _ hl) hec
            have hcs8 : ∀ j, j < k + 1 → Comps (idsOf g.nodes) (g.edges.eraseIdx j) (set1 cs k nk j) := fun j hj => by
              by_cases e : j = k
              · subst e; rw [set1_same]; exact hcomp2
              · rw [set1_other (by omega)]; exact hcs j (by omega)
            have hPL := pickN_len (fun k => (g.edges.getD k d0).id) (fun k => decide (n < cs k)) k
            have hdec : ∀ j, j < k → decide (n < set1 cs k nk j) = decide (n < cs j) := fun j hj => by rw [set1_other hj]
            clear hb7 hb8 rr hgl hm2 hcard2 hown hBw hB hec hcs m0 m1
          · rename_i hlt3
            have hpm := pick_more (id := fun k => (g.edges.getD k d0).id) (dec := fun k => decide (n < cs k)) (dec' := fun j => decide (n < set1 cs k nk j)) hdec (by rw [set1_same]; exact decide_eq_true hlt3)
            simp only [getD_eq hltE, HXI.out] at hpm
            generalize pickN (fun k => (g.edges.getD k d0).id) (fun k => decide (n < cs k)) k = P at hown8 hPL hpm
            obtain ⟨i0, hi0, hz0, hz1, hz2⟩ := info_parts (show (Tryz.prog.info? 2).map (fun i => (i.zero, i.size, i.bytes)) = some (some (.int .i64 0), 1, 8) by kernel_rfl)
            have hsz8 := hb38.size
            have hP2 : P.length ≤ 400 := by omega
            clear hlt3
            go_wp2_with (at_builtin; refine wpList_append_lies _ rfl (.tmp 37) (.tmp 40) 39 rfl w3.heap.size 2 i0 (.int .i64 0) 1 8 Tryz.underlying39 hi0 hz0 hz1 hz2 rfl (by decide) _ P.length (P.map (Value.int .i64)) rfl (hown8.alloc _) ⟨_, 0, none⟩ 1 1 [.int .i64 xi] rfl rfl (new_cells (by simp) _ _) (by intro u hu; simp at hu; subst hu; rfl) (by decide) (by unfold maxLen; omega) (by omega) (by simp; omega) _ rfl ?_; intro gg cap w9 hown9 hgrow9 hat9 hlt9; have hgrow9 : World.grownBy _ w9 u4.ownBlock := hgrow9)
            go_round
            case rel =>
              refine ⟨k + 1, set1 cs k nk, by omega, by go_num, ?_, hcs8, ?_⟩
              · exact (hb38.alloc hsz8 _).grown hgrow9 (by simp; omega) (fun q hq => (hown8.lt q hq).1)
              · rw [hpm, List.length_append, List.map_append]; exact hown9
            case measure => simp [intOf]; omega
          · rename_i hlt3
            have hpm := pick_same (id := fun k => (g.edges.getD k d0).id) (dec := fun k => decide (n < cs k)) (dec' := fun j => decide (n < set1 cs k nk j)) hdec (by rw [set1_same]; exact decide_eq_false hlt3)
            go_round
            case rel => exact ⟨k + 1, set1 cs k nk, by omega, by go_num, hb38, hcs8, by rw [hpm]; exact hown8⟩
            case measure => simp [intOf]; omega
      · have hk3 : k = n2 := by omega
        subst hk3
        have f0 : decide ((k : Int) < k) = false := decide_eq_false (by omega)
        go_wp2_with fail
        go_ret
        obtain ⟨t1, t2⟩ := own_rint hown (by have := pickN_len (fun k => (g.edges.getD k d0).id) (fun i => decide (n < cs i)) k; omega)
        have hbz := hbA.trans (hb.mono hbA.size)
        refine ⟨_, ⟨(fun h => by rw [hg] at h; cases h), fun _ => ⟨n, cs, hcomp, fun j hj => hcs j (by rw [← HN2.out]; exact hj), rfl⟩⟩, _, rfl, ?_, ?_, hbz⟩
        · rw [HN2.out]; exact t1.mono EInt.mono (fun b hb => Nat.le_trans hbA.size hb)
        · rw [HN2.out]; exact Own.low t2 hbA.size
end Go.Proofs.YtaoccbhdlkflfaaGreatDoor
