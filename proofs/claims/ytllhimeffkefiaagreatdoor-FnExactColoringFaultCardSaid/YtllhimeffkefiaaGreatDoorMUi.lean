/- Texts of one proof, joined in their order: each bears its own word of what it holds and on what condition. -/
import Derived.Test.YtllhimeffkefiaaGreatDoorMP
import Derived.Test.YtllhimeffkefiaaGreatDoorMN
import Derived.Deep.CutRange
set_option linter.unusedVariables false
set_option linter.unusedSimpArgs false
/- impl's Bridges, whole. Condition: the library's variables are as they were laid. -/
set_option linter.unusedVariables false
set_option linter.unusedSimpArgs false
namespace Go.Proofs.YtllhimeffkefiaaGreatDoor
open Go.RowKit Go.Sort

def BrR (g : Gr) (w : World) (e : Ending) (w' : World) : Prop := ∃ xs, BrX g xs ∧ IntsR xs w e w'
theorem IntsR.nil (w w' : World) (c : Nat) (a : Option Addr) (h : Below w.heap.size w w') : IntsR [] w (.returned (.slice a 0 c)) w' :=
  ⟨_, rfl, ⟨a, c, rfl, by simp, fun k x hx => by simp at hx⟩, ⟨a, c, rfl, .inl rfl⟩, h⟩
/-- the number of parts of a graph, as impl has it -/
theorem parts_pos {ks : List Int} {es : List Ed} {f : Int → Int} (h : IsPart ks es f) (hp : ∀ id ∈ ks, 1 ≤ id) : ∀ id ∈ ks, f id ≠ 0 := fun id hid => by
  have := hp _ (h id hid).1
  omega
theorem cell_alloc {u : World} {b o : Nat} {x : Value} (h : u.cell? ⟨b, o, none⟩ = some x) (ob : Obj) : (u.alloc ob).cell? ⟨b, o, none⟩ = some x := cell_kept (fun hl => ((Below.refl _ u).alloc (Nat.le_refl _) ob).block _ hl) h
theorem withIt {A B : Prop} (a : A) (f : A → B) : B := f a
/-- a box of two cells -/
def Bx (W : World) (b : Nat) (x y : Value) : Prop := W.cell? ⟨b, 0, none⟩ = some x ∧ W.cell? ⟨b, 1, none⟩ = some y ∧ W.frozen? ⟨b, 0, none⟩ = false ∧ W.frozen? ⟨b, 1, none⟩ = false
theorem bx_new (u : World) (x y : Value) (T : Nat) : Bx (u.alloc (.cells #[x, y] T)) u.heap.size x y :=
  ⟨by rw [World.cell?_alloc_mark]; rfl, by rw [World.cell?_alloc_mark]; rfl, by rw [World.frozen?_alloc_mark]; simp, by rw [World.frozen?_alloc_mark]; simp⟩
theorem Bx.block {W W' : World} {b : Nat} {x y : Value} (h : Bx W b x y) (hb : W'.heap[b]? = W.heap[b]?) : Bx W' b x y :=
  ⟨(World.cell?_of_block (a := ⟨b, 0, none⟩) hb).trans h.1, (World.cell?_of_block (a := ⟨b, 1, none⟩) hb).trans h.2.1, (World.frozen?_of_block (a := ⟨b, 0, none⟩) hb).trans h.2.2.1, (World.frozen?_of_block (a := ⟨b, 1, none⟩) hb).trans h.2.2.2⟩
theorem Bx.lt {W : World} {b : Nat} {x y : Value} (h : Bx W b x y) : b < W.heap.size := lt_of_cell h.1
theorem bx_of {u w' : World} {x y : Value} {T : Nat} (h : Below (u.alloc (.cells #[x, y] T)).heap.size (u.alloc (.cells #[x, y] T)) w') : Bx w' u.heap.size x y := (bx_new u x y T).block (h.block _ (bx_new u x y T).lt)
theorem bx_ofd {u w' : World} {x y : Value} {T : Nat} (h : Below (u.alloc (.cells #[x, y] T)).drew.heap.size (u.alloc (.cells #[x, y] T)).drew w') : Bx w' u.heap.size x y := (bx_new u x y T).block (h.block _ (bx_new u x y T).lt)
theorem bx_grown {u w' : World} {x y : Value} {T g : Nat} (h : (u.alloc (.cells #[x, y] T)).grownBy w' (some g)) (hg : g ≠ u.heap.size) : Bx w' u.heap.size x y := (bx_new u x y T).block (h.block _ (bx_new u x y T).lt (fun e => hg (by injection e with e; exact e.symm)))
theorem bx_kept {W W' : World} {b g : Nat} {x y : Value} (h : W.grownBy W' (some g)) (hg : g ≠ b) (hB : Bx W b x y) : Bx W' b x y := hB.block (h.block _ hB.lt (fun e => hg (by injection e with e; exact e.symm)))
/-- the graph without one edge, in a box of the call's own -/
def Hx (W2 : World) (x : Value) (m : Nat) (ns : List Value) (v : Value) (W : World) : Prop := ∃ bh gC cC, v = .pointer (some ⟨bh, 0, none⟩) ∧ Bx W bh x (.slice (some ⟨gC, 0, none⟩) m cC) ∧ At W gC 0 ns ∧ Below W2.heap.size W2 W
theorem hx_new {W2 w6 : World} {x : Value} {m gC cC T : Nat} {ns : List Value} (h : At w6 gC 0 ns) (hb : Below W2.heap.size W2 w6) : Hx W2 x m ns (.pointer (some ⟨w6.heap.size, 0, none⟩)) (w6.alloc (.cells #[x, .slice (some ⟨gC, 0, none⟩) m cC] T)) :=
  ⟨_, gC, cC, rfl, bx_new _ _ _ _, fun j u hj => cell_alloc (h j u hj) _, hb.alloc hb.size _⟩
theorem hx_set {W2 w6 : World} {x z z' : Value} {m gC cC bh : Nat} {ns : List Value} (h : At w6 gC 0 ns) (hb : Below W2.heap.size W2 w6) (hB : Bx w6 bh z z') (hg : gC ≠ bh) (hbh : W2.heap.size ≤ bh) : Hx W2 x m ns (.pointer (some ⟨bh, 0, none⟩)) ((w6.setCell ⟨bh, 0, none⟩ x).setCell ⟨bh, 1, none⟩ (.slice (some ⟨gC, 0, none⟩) m cC)) := by
  refine ⟨_, gC, cC, rfl, ⟨?_, ?_, ?_, ?_⟩, fun j u hj => ?_, ⟨hb.os, hb.tape, hb.output, by simp [World.setCell]; exact hb.size, fun b hl => ?_⟩⟩
  · exact (World.cell?_setCell_other _ _ _ _ (by simp)).trans (World.cell?_setCell_same _ _ _ hB.1)
  · exact World.cell?_setCell_same _ _ _ ((World.cell?_setCell_other _ _ _ _ (by simp)).trans hB.2.1)
  · exact (World.frozen?_setCell _ _ _ _).trans ((World.frozen?_setCell _ _ _ _).trans hB.2.2.1)
  · exact (World.frozen?_setCell _ _ _ _).trans ((World.frozen?_setCell _ _ _ _).trans hB.2.2.2)
  · exact (World.cell?_setCell_other _ _ _ _ (fun e => hg (by injection e with e _; exact e.symm))).trans ((World.cell?_setCell_other _ _ _ _ (fun e => hg (by injection e with e _; exact e.symm))).trans (h j u hj))
  · exact (Below.heap_setCell _ _ _ _ (by show b ≠ bh; omega)).trans ((Below.heap_setCell _ _ _ _ (by show b ≠ bh; omega)).trans (hb.block b hl))
end Go.Proofs.YtllhimeffkefiaaGreatDoor
