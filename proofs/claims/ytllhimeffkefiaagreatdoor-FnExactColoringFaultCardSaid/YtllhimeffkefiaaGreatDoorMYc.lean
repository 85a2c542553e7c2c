/- Texts of one proof, joined in their order: each bears its own word of what it holds and on what condition. -/
import Derived.Test.YtllhimeffkefiaaGreatDoorMYa
import Derived.Test.YtllhimeffkefiaaGreatDoorMUi
set_option linter.unusedVariables false
set_option linter.unusedSimpArgs false
/- impl's neighbours: the step that puts one neighbour down. Condition: the map and its rows are the call's own. -/
set_option linter.unusedVariables false
set_option linter.unusedSimpArgs false
namespace Go.Proofs.YtllhimeffkefiaaGreatDoor
open Go.RowKit Go.Sort

/-- below base nothing but block b has turned -/
structure Fx (w w' : World) (b base : Nat) : Prop where
  os : w'.os = w.os
  tape : w'.tape = w.tape
  output : w'.output = w.output
  size : w.heap.size ≤ w'.heap.size
  block : ∀ q, q < base → q ≠ b → w'.heap[q]? = w.heap[q]?
theorem Fx.refl (w : World) (b base : Nat) : Fx w w b base := ⟨rfl, rfl, rfl, Nat.le_refl _, fun _ _ _ => rfl⟩
theorem Fx.trans {w w1 w2 : World} {b base : Nat} (h : Fx w w1 b base) (k : Fx w1 w2 b base) : Fx w w2 b base :=
  ⟨k.os.trans h.os, k.tape.trans h.tape, k.output.trans h.output, Nat.le_trans h.size k.size, fun q hq hn => (k.block q hq hn).trans (h.block q hq hn)⟩
theorem Fx.of_below {w w' : World} {b base : Nat} (h : Below w.heap.size w w') (hb : base ≤ w.heap.size) : Fx w w' b base :=
  ⟨h.os, h.tape, h.output, h.size, fun q hq _ => h.block q (by omega)⟩
theorem Fx.grown {w w' : World} {b base : Nat} {row : Option Nat} (h : w.grownBy w' row) (hb : base ≤ w.heap.size) (hr : ∀ q, row = some q → q = b ∨ base ≤ q) : Fx w w' b base :=
  ⟨h.os, h.tape, h.output, h.size, fun q hq hn => h.block q (by omega) (fun e => by rcases hr q e.symm with z | z; exact hn z; omega)⟩
def putL (L : Int → List Int) (a x : Int) : Int → List Int := if (L a).contains x then L else updL L a (L a ++ [x])
/-- the map in block b, its rows from base on -/
structure NbS (w : World) (b base : Nat) (ks : List Int) (F : Int → Value) (L : Int → List Int) : Prop where
  map : MapV w b ks F
  rows : RowsV w base F L
  lo : b < base
  sz : base ≤ w.heap.size
theorem NbS.below {w w' : World} {b base : Nat} {ks : List Int} {F : Int → Value} {L : Int → List Int} (h : NbS w b base ks F L) (hb : Below w.heap.size w w') : NbS w' b base ks F L :=
  ⟨h.map.block (hb.block _ h.map.lt), h.rows.kept (fun q _ hl => hb.block q hl), h.lo, Nat.le_trans h.sz hb.size⟩
theorem NbS.shape {w : World} {b base : Nat} {ks : List Int} {F : Int → Value} {L : Int → List Int} (h : NbS w b base ks F L) (a : Int) : ∃ aa cc, F a = .slice aa (L a).length cc := by
  rcases (h.rows.own a).2 with ⟨e, h0⟩ | ⟨g, cap, cur, e, _⟩
  · rw [h0]; exact ⟨_, _, e⟩
  · exact ⟨_, _, e⟩
def PutR (w : World) (b base : Nat) (ks : List Int) (F : Int → Value) (L : Int → List Int) (a x : Int) (e : Ending) (w' : World) : Prop := e = .returned (.tuple #[]) ∧ ∃ F', NbS w' b base ks F' (putL L a x) ∧ Fx w w' b base ∧ ∀ q, q < w.heap.size → q ≠ b → (∀ id, (F id).ownBlock ≠ some q) → w'.heap[q]? = w.heap[q]?
set_option maxHeartbeats 2000000 in
set_option maxRecDepth 100000 in
theorem put_any (w : World) (bo b base : Nat) (ks : List Int) (F : Int → Value) (L : Int → List Int) (hN : NbS w b base ks F L) (hBO : bo < base) (hbo : w.cell? ⟨bo, 0, none⟩ = some (.map (some b))) (hks : ks.length < 1048576) (a x : Int) (ha : a ∈ ks) (hai : I64 a) (hl : (L a).length ≤ 1000) :
    Calls Tryz.prog 100 #[.int .i64 a, .int .i64 x, .pointer (some ⟨bo, 0, none⟩)] w (PutR w b base ks F L a x) := by
  obtain ⟨aa, cc, hF⟩ := hN.shape a
  have hown := hN.rows.own a
  have hlook := (hN.map.look hai).2
  have hcon := contains_row w base (F a) (L a) hown (by omega) x
  rw [hF] at hlook hcon
  cases hc : (L a).contains x with
  | true =>
    rw [hc] at hcon
    have hp : putL L a x = L := if_pos hc
    have HP := Lib.hid hp
    clear hc hp
    go_enter Tryz.func100, Tryz.ntmps100
    go_wp2_with (go_at_call 77; refine hcon.mono ?_; rintro e w' ⟨rfl, rfl⟩)
    go_end0
    exact ⟨rfl, F, by rw [HP.out]; exact hN, Fx.refl _ _ _, fun _ _ _ _ => rfl⟩
  | false =>
    rw [hc] at hcon
    have hp : putL L a x = updL L a (L a ++ [x]) := if_neg (by rw [hc]; decide)
    have HP := Lib.hid hp
    clear hc hp
    go_enter Tryz.func100, Tryz.ntmps100
    go_upto_region 1 with (go_at_call 77; refine hcon.mono ?_; rintro e w' ⟨rfl, rfl⟩)
    obtain ⟨i0, hi0, hz0, hz1, hz2⟩ := info_parts (show (Tryz.prog.info? 2).map (fun i => (i.zero, i.size, i.bytes)) = some (some (.int .i64 0), 1, 8) by kernel_rfl)
    have T1 : ∀ (ops : Array Oper) (oo : Oper) (A : Act) (K : Act → World → Prop) (Q : Exit → Act → World → Prop) (E : Prop) (hg : oo.guard = none) (ho : oo.op = .call { callee := .builtin .append, args := #[.tmp 15, .tmp 17], argTypes := #[27, 27] }) (hs : A.eval (.tmp 15) = .slice aa (L a).length cc) (hx : A.eval (.tmp 17) = .slice (some ⟨w'.heap.size, 0, none⟩) 1 1)
        (h : ∀ g cap w9 w10, (Instr.mapUpdate 129 (.map (some b)) (.int .i64 a) (.slice (some ⟨g, 0, none⟩) ((L a).length + 1) cap)).run Tryz.prog w9 = .ok () w10 → NbS w10 b base ks (updV F a (.slice (some ⟨g, 0, none⟩) ((L a).length + 1) cap)) (putL L a x) → Fx w' w10 b base → (∀ q, q < w'.heap.size → q ≠ b → (∀ id, (F id).ownBlock ≠ some q) → w10.heap[q]? = w'.heap[q]?) → w9.cell? ⟨bo, 0, none⟩ = some (.map (some b)) → K (A.put oo.dst (.slice (some ⟨g, 0, none⟩) ((L a).length + 1) cap)) w9),
        if Region.wanted oo (yielded ops A.tmps) = true then Oper.wp Tryz.prog oo A ((w'.alloc (.cells #[.int .i64 x] 2)).drew) K Q else E := fun ops oo A K Q E hg ho hs hx h => by
      have hba : Below w'.heap.size w' (w'.alloc (.cells #[.int .i64 x] 2)).drew := (fun h => ⟨h.os, h.tape, h.output, h.size, h.block⟩) ((Below.refl _ w').alloc (Nat.le_refl _) (.cells #[.int .i64 x] 2))
      have hs2 := hN.sz
      have hlo := hN.lo
      refine step_append_lies _ hg (.tmp 15) (.tmp 17) 27 ho base 2 i0 (.int .i64 0) 1 8 Tryz.underlying27 hi0 hz0 hz1 hz2 rfl (by decide) (.slice aa (L a).length cc) (L a).length ((L a).map (Value.int .i64)) hs (by rw [← hF]; exact hown.alloc _) ⟨w'.heap.size, 0, none⟩ 1 1 [.int .i64 x] hx rfl (World.news_of_block (new_block rfl _ _)) (by intro u hu; simp at hu; subst hu; rfl) (by decide) (by unfold maxLen; omega) (by omega) (Nat.le_trans hs2 hba.size) _ rfl ?_
      intro g cap w9 hown9 hgrow9 hat9 hlt9
      have hbl : ∀ q, (F a).ownBlock = some q → base ≤ q ∧ q < w'.heap.size := fun q e => hown.lt q e
      rw [← hF] at hgrow9 hat9
      have hk9 : ∀ q, q < w'.heap.size → (F a).ownBlock ≠ some q → w9.heap[q]? = w'.heap[q]? := fun q hq hne => (hgrow9.block q (Nat.lt_of_lt_of_le hq hba.size) (fun e => hne e.symm)).trans (hba.block q hq)
      have hM9 := hN.map.block (hk9 b hN.map.lt (fun e => by have := (hbl b e).1; omega))
      obtain ⟨w10, hr, hM10, hg10⟩ := hM9.put hks ha hai (some ⟨g, 0, none⟩) ((L a).length + 1) cap
      have hsz9 : w'.heap.size ≤ w9.heap.size := Nat.le_trans hba.size hgrow9.size
      have hgl : ∀ q, (Value.slice (some ⟨g, 0, none⟩) ((L a).length + 1) cap).ownBlock = some q → (F a).ownBlock = some q ∨ w'.heap.size ≤ q := fun q hq => by
        have hq : g = q := Option.some.inj hq
        subst hq
        rcases hat9 with e | e
        · exact .inl e
        · exact .inr (by rw [e]; exact hba.size)
      refine h g cap w9 w10 hr ⟨hM10, ?_, hlo, Nat.le_trans hs2 (Nat.le_trans hsz9 hg10.size)⟩ ⟨hg10.os.trans (hgrow9.os.trans hba.os), hg10.tape.trans (hgrow9.tape.trans hba.tape), hg10.output.trans (hgrow9.output.trans hba.output), Nat.le_trans hsz9 hg10.size, fun q hq hn => (hg10.block q (by omega) (fun e => hn (Option.some.inj e))).trans (hk9 q (by omega) (fun e => by have := (hbl q e).1; omega))⟩ (fun q hq hn hne => (hg10.block q (by omega) (fun e => hn (Option.some.inj e))).trans (hk9 q hq (hne a))) ?_
      · rw [HP.out]
        refine hN.rows.put a (fun q hq hl hne => (hg10.block q (by omega) (fun e => by have := Option.some.inj e; omega)).trans (hk9 q hl hne)) hgl ?_
        rw [List.length_append, List.map_append]
        exact own_kept hown9 (fun q hq hl => hg10.block q hl (fun e => by have := Option.some.inj e; omega))
      · exact cell_kept (fun hl => hk9 bo hl (fun e => by have := hBO; have := (hbl bo e).1; omega)) hbo
    have hlk1 : (Instr.lookup 129 (.map (some b)) (.int .i64 a) false).run Tryz.prog w'.drew = .ok (.slice aa (L a).length cc) w'.drew := by
      have := (MapV.look (w := w'.drew) hN.map hai).2
      rwa [hF] at this
    have hlk2 : ∀ ob, (Instr.lookup 129 (.map (some b)) (.int .i64 a) false).run Tryz.prog (w'.alloc ob).drew = .ok (.slice aa (L a).length cc) (w'.alloc ob).drew := fun ob => by
      have := (MapV.look (w := (w'.alloc ob).drew) (hN.map.block (((Below.refl _ w').alloc (Nat.le_refl _) ob).block b hN.map.lt)) hai).2
      rwa [hF] at this
    have hbo2 : ∀ ob, (w'.alloc ob).cell? ⟨bo, 0, none⟩ = some (.map (some b)) := fun ob => cell_alloc hbo ob
    clear hlook hcon hown
    go_region_law (first
      | (refine T1 _ _ _ _ _ _ rfl rfl (by simp [Act.eval, Act.put]) (by simp [Act.eval, Act.put]) ?_; intro g cap w9 w10 hr hN10 hfx hfo hb9))
    all_goals
      go_end0
      exact ⟨rfl, _, hN10, hfx, hfo⟩
end Go.Proofs.YtllhimeffkefiaaGreatDoor
