/- Texts of one proof, joined in their order: each bears its own word of what it holds and on what condition. -/
import Derived.Test.YtllhimeffkefiaaGreatDoorMKa
import Derived.Test.YtllhimeffkefiaaGreatDoorMR
import Derived.Test.YtllhimeffkefiaaGreatDoorMJ
import Derived.WalkSpells
set_option linter.unusedVariables false
set_option linter.unusedSimpArgs false
/- impl's coloringOk. Condition: the library's variables are as they were laid; the count is a number of 64 bits. -/
set_option linter.unusedVariables false
set_option linter.unusedSimpArgs false
namespace Go.Proofs.YtllhimeffkefiaaGreatDoor
open Go.RowKit Go.Sort

theorem PropB.yes {P : Prop} {w w' : World} {e : Ending} (h : PropB P w e w') (hp : P) : e = .returned (.bool true) ∧ Below w.heap.size w w' := by
  obtain ⟨b, rfl, h1, h2⟩ := h
  have := h1.2 hp
  subst this
  exact ⟨rfl, h2⟩
theorem PropB.no {P : Prop} {w w' : World} {e : Ending} (h : PropB P w e w') (hp : ¬ P) : e = .returned (.bool false) ∧ Below w.heap.size w w' := by
  obtain ⟨b, rfl, h1, h2⟩ := h
  cases b with
  | false => exact ⟨rfl, h2⟩
  | true => exact absurd (h1.1 rfl) hp
theorem PropB.false {P : Prop} {w w' : World} (hp : ¬ P) (h : Below w.heap.size w w') : PropB P w (.returned (.bool false)) w' := ⟨Bool.false, rfl, ⟨(fun q => by cases q), fun q => absurd q hp⟩, h⟩
/-- the colours of the nodes of the first entries -/
def colF (cs : List Pt) : Int → Int := cs.foldl (fun f p => upd f p.node p.num) (fun _ => 0)
theorem colF_snoc (cs : List Pt) (p : Pt) : colF (cs ++ [p]) = upd (colF cs) p.node p.num := by unfold colF; rw [List.foldl_append]; rfl
theorem colF_at : ∀ (n : Nat) (cs : List Pt), cs.length = n → (∀ i j (hi : i < cs.length) (hj : j < cs.length), cs[i].node = cs[j].node → i = j) → ∀ i (hi : i < cs.length), colF cs cs[i].node = cs[i].num
  | 0, cs, hl, _, i, hi => by omega
  | n + 1, cs, hl, hd, i, hi => by
    have hcs : cs = cs.take n ++ [cs[n]] := by
      have := take_snoc' cs n (by omega)
      rw [List.take_of_length_le (by omega)] at this
      exact this
    have hlt : (cs.take n).length = n := by rw [List.length_take]; omega
    have ih := colF_at n (cs.take n) hlt (fun a b ha hb e => hd a b (by omega) (by omega) (by rw [List.getElem_take, List.getElem_take] at e; exact e))
    have hc : colF cs = upd (colF (cs.take n)) cs[n].node cs[n].num := by
      rw [← colF_snoc, ← hcs]
    rw [hc]
    unfold upd
    by_cases e : i = n
    · subst e; rw [if_pos rfl]
    · rw [if_neg (fun q => e (hd i n hi (by omega) q))]
      have := ih i (by rw [hlt]; omega)
      rw [List.getElem_take] at this
      exact this
/-- the boxes, the neighbours, the colours, what is used -/
structure Cst (w W : World) (bg bk bm base bc bu : Nat) (x0 x1 y0 y1 y2 : Value) (ks : List Int) (F : Int → Value) (L : Int → List Int) (f : Int → Int) (P : Int → Prop) (i : Nat) : Prop where
  below : Below w.heap.size w W
  g0 : W.cell? ⟨bg, 0, none⟩ = some x0
  g1 : W.cell? ⟨bg, 1, none⟩ = some x1
  k0 : W.cell? ⟨bk, 0, none⟩ = some y0
  k1 : W.cell? ⟨bk, 1, none⟩ = some y1
  k2 : W.cell? ⟨bk, 2, none⟩ = some y2
  nb : NbS W bm base ks F L
  col : MapK 2 W bc ks f
  use : SeenM W bu P i
theorem Cst.step {w W W' : World} {bg bk bm base bc bu : Nat} {x0 x1 y0 y1 y2 : Value} {ks : List Int} {F : Int → Value} {L : Int → List Int} {f : Int → Int} {P : Int → Prop} {i : Nat} (h : Cst w W bg bk bm base bc bu x0 x1 y0 y1 y2 ks F L f P i) (hb : Below W.heap.size W W') : Cst w W' bg bk bm base bc bu x0 x1 y0 y1 y2 ks F L f P i :=
  ⟨h.below.trans (hb.mono h.below.size), cell_kept (fun hl => hb.block _ hl) h.g0, cell_kept (fun hl => hb.block _ hl) h.g1, cell_kept (fun hl => hb.block _ hl) h.k0, cell_kept (fun hl => hb.block _ hl) h.k1, cell_kept (fun hl => hb.block _ hl) h.k2, h.nb.below hb, h.col.below (hb.block _ h.col.lt), h.use.block (hb.block _ h.use.lt)⟩
/-- where the blocks stand -/
structure Cord (w : World) (bg bk bm bc bu : Nat) (F : Int → Value) : Prop where
  o0 : w.heap.size ≤ bg
  o1 : bg < bk
  o2 : bk < bm
  o3 : bm < bc
  o4 : bc < bu
  hi : ∀ id q, (F id).ownBlock = some q → q < bc
theorem Cst.other {w W W' : World} {bg bk bm base bc bu : Nat} {x0 x1 y0 y1 y2 : Value} {ks : List Int} {F : Int → Value} {L : Int → List Int} {f : Int → Int} {P : Int → Prop} {i : Nat} (h : Cst w W bg bk bm base bc bu x0 x1 y0 y1 y2 ks F L f P i) (o : Cord w bg bk bm bc bu F) {z : Nat} (hz : bc ≤ z) (hg : W.grownBy W' (some z)) :
    Below w.heap.size w W' ∧ W'.cell? ⟨bg, 0, none⟩ = some x0 ∧ W'.cell? ⟨bg, 1, none⟩ = some x1 ∧ W'.cell? ⟨bk, 0, none⟩ = some y0 ∧ W'.cell? ⟨bk, 1, none⟩ = some y1 ∧ W'.cell? ⟨bk, 2, none⟩ = some y2 ∧ NbS W' bm base ks F L := by
  obtain ⟨o0, o1, o2, o3, o4, hi⟩ := o
  have hk : ∀ q, q < bc → q < W.heap.size → W'.heap[q]? = W.heap[q]? := fun q hq hl => hg.block q hl (fun e => by injection e; omega)
  exact ⟨⟨hg.os.trans h.below.os, hg.tape.trans h.below.tape, hg.output.trans h.below.output, Nat.le_trans h.below.size hg.size, fun b hb => (hk b (by omega) (Nat.lt_of_lt_of_le hb h.below.size)).trans (h.below.block b hb)⟩,
    cell_kept (fun hl => hk bg (by omega) hl) h.g0, cell_kept (fun hl => hk bg (by omega) hl) h.g1, cell_kept (fun hl => hk bk (by omega) hl) h.k0, cell_kept (fun hl => hk bk (by omega) hl) h.k1, cell_kept (fun hl => hk bk (by omega) hl) h.k2,
    ⟨h.nb.map.block (hk bm o3 h.nb.map.lt), h.nb.rows.keptOwn (fun id q e => hk q (hi id q e) ((h.nb.rows.own id).lt q e).2), h.nb.lo, Nat.le_trans h.nb.sz hg.size⟩⟩
theorem Cst.putc {w W : World} {bg bk bm base bc bu : Nat} {x0 x1 y0 y1 y2 : Value} {ks : List Int} {F : Int → Value} {L : Int → List Int} {f : Int → Int} {P : Int → Prop} {i : Nat} (h : Cst w W bg bk bm base bc bu x0 x1 y0 y1 y2 ks F L f P i) (o : Cord w bg bk bm bc bu F) (hn : ks.length < 1048576) {id x : Int} (hk : id ∈ ks) (hi : I64 id) (hx : I64 x) :
    ∃ W', (Instr.mapUpdate 90 (.map (some bc)) (.int .i64 id) (.int .i64 x)).run Tryz.prog W = .ok () W' ∧ Cst w W' bg bk bm base bc bu x0 x1 y0 y1 y2 ks F L (upd f id x) P i ∧ W.grownBy W' (some bc) := by
  obtain ⟨W', hr, hm, hg⟩ := h.col.put Tryz.underlying90 Tryz.underlying2 hn hk hi hx
  obtain ⟨a1, a2, a3, a4, a5, a6, a7⟩ := h.other o (Nat.le_refl _) hg
  have := o.o4
  exact ⟨W', hr, ⟨a1, a2, a3, a4, a5, a6, a7, hm, h.use.block (hg.block bu h.use.lt (fun e => by injection e; omega))⟩, hg⟩
theorem Cst.putu {w W : World} {bg bk bm base bc bu : Nat} {x0 x1 y0 y1 y2 : Value} {ks : List Int} {F : Int → Value} {L : Int → List Int} {f : Int → Int} {P : Int → Prop} {i : Nat} (h : Cst w W bg bk bm base bc bu x0 x1 y0 y1 y2 ks F L f P i) (o : Cord w bg bk bm bc bu F) (hm : i < 1048576) {x : Int} (hx : I64 x) :
    ∃ c : Int, 0 ≤ c ∧ c ≤ i ∧ (Instr.lookup 131 (.map (some bu)) (.int .i64 x) false).run Tryz.prog W = .ok (.int .i64 c) W ∧ ∃ W', (Instr.mapUpdate 131 (.map (some bu)) (.int .i64 x) (.int .i64 (c + 1))).run Tryz.prog W = .ok () W' ∧ Cst w W' bg bk bm base bc bu x0 x1 y0 y1 y2 ks F L f (fun y => y = x ∨ P y) (i + 1) := by
  obtain ⟨c, h0, h1, hl, W', hr, hs, hg⟩ := h.use.put hm hx
  have h4 := o.o4
  obtain ⟨a1, a2, a3, a4, a5, a6, a7⟩ := h.other o (by omega) hg
  exact ⟨c, h0, h1, hl, W', hr, ⟨a1, a2, a3, a4, a5, a6, a7, h.col.below (hg.block bc h.col.lt (fun e => by injection e; omega)), hs⟩⟩
theorem Cst.congr {w W : World} {bg bk bm base bc bu : Nat} {x0 x1 y0 y1 y2 : Value} {ks : List Int} {F : Int → Value} {L : Int → List Int} {f f' : Int → Int} {P P' : Int → Prop} {i : Nat} (h : Cst w W bg bk bm base bc bu x0 x1 y0 y1 y2 ks F L f P i) (hf : f = f') (hP : ∀ x, P x ↔ P' x) : Cst w W bg bk bm base bc bu x0 x1 y0 y1 y2 ks F L f' P' i := by
  subst hf
  exact ⟨h.below, h.g0, h.g1, h.k0, h.k1, h.k2, h.nb, h.col, h.use.congr hP⟩
/-- an argument: a colouring -/
def RCol (w : World) (S : Nat → Prop) (v : Value) (cs : List Pt) (cnt : Int) (cl : List Int) : Prop := ∃ vp vq, v = .agg #[vp, .int .i64 cnt, vq] ∧ RPt w S vp cs ∧ RInt w S vq cl
theorem RCol.below {w w' : World} {S : Nat → Prop} {v : Value} {cs : List Pt} {cnt : Int} {cl : List Int} (h : RCol w S v cs cnt cl) (hb : Below w.heap.size w w') : RCol w' S v cs cnt cl := by
  obtain ⟨vp, vq, rfl, h1, h2⟩ := h
  exact ⟨vp, vq, rfl, h1.below EPt.kept hb, h2.below EInt.kept hb⟩
/-- no value of a key that is not there -/
theorem nb_none {w : World} {b base : Nat} {ks : List Int} {F : Int → Value} {L : Int → List Int} (h : NbS w b base ks F L) {l : List (Lit × DataW Value)} (hat : ∀ id, (DataW.map l).atKey (.int .i64 id) (.held nilS) = .held (F id)) {id : Int} (hn : Maps.has (DataW.map l) (.int .i64 id) = false) : L id = [] := by
  have e := hat id
  rw [Maps.atKey_of_not_has hn] at e
  injection e with e
  have ho := h.rows.own id
  rw [← e] at ho
  rcases ho.2 with ⟨_, q⟩ | ⟨g, cap, cur, q, _⟩
  · exact List.length_eq_zero_iff.1 q
  · cases q
end Go.Proofs.YtllhimeffkefiaaGreatDoor
