/- Texts of one proof, joined in their order: each bears its own word of what it holds and on what condition. -/
import Derived.Test.YtllhimeffkefiaaGreatDoorMA
import Derived.Deep.Slices
import Derived.Deep.Fields
import Derived.Test.YtllhimeffkefiaaGreatDoorMC
import Derived.Lib.LaidTab
set_option linter.unusedVariables false
set_option linter.unusedSimpArgs false
/- The argument opened: a graph that a caller hands in lies as RGr says. No condition. -/
set_option linter.unusedVariables false
set_option linter.unusedSimpArgs false
namespace Go.Proofs.YtllhimeffkefiaaGreatDoor
open Go.RowKit Go.Deep Go.ChangeShapes Go.WideShapes

section
variable {H : Type} {enc : TypeId × Value → H} {w : World} {sp : Nat → Bool} {held : Bool} {fuel : Nat} {cs : List Value} {x : DataW H × List MemPlace}
/-- how an element of type e opens -/
def Opens {α : Type} (enc : TypeId × Value → H) (w : World) (sp : Nat → Bool) (held : Bool) (e : TypeId) (E : Elem α) : Prop :=
  ∀ (fuel : Nat) (cs : List Value) (x : DataW H × List MemPlace), DataW.trod enc Tryz.prog w 0 sp held fuel e cs = some x → ∃ y : α, E w (fun _ => True) (fun j => cs.getD j undef) y
theorem open_row {α : Type} {sz : Nat} {E : Elem α} {t e : TypeId} (ht : Tryz.prog.underlying t = some (.slice e)) (hc : Tryz.prog.cellsOf e = sz) (hs : 0 < sz) (hE : Opens enc w sp held e E)
    (h : DataW.trod enc Tryz.prog w 0 sp held fuel t cs = some x) : ∃ (v : Value) (ys : List α), cs = [v] ∧ Row sz E w (fun _ => True) v ys := by
  rcases open_slice ht h with ⟨rfl, _⟩ | ⟨a, len, cap, m, n, D, Pl, rfl, _, hl, hm, hmm, _, hi⟩
  · exact ⟨_, [], rfl, none, 0, rfl, by simp, fun k x hx => by simp at hx⟩
  have hlm : len ≤ m := by rw [hmm]; split <;> omega
  rw [hc] at hi
  have hspot : 0 < len → a.spot = none := fun h0 => by
    obtain ⟨cs', hcs, htr⟩ := hi 0 (by omega)
    obtain ⟨_, hlen, hat⟩ := World.cells?_some hcs
    have h0 := hat 0 hs
    rw [Nat.zero_mul, Addr.add_zero', Addr.add_zero', List.getElem?_eq_getElem (by omega)] at h0
    unfold World.cell? at h0
    split at h0
    · cases hsp : a.spot with
      | none => rfl
      | some r => simp [hsp] at h0
    · cases h0
  have hel : ∀ i : Fin len, ∃ y : α, ∃ b o f, (some a : Option Addr) = some ⟨b, o, none⟩ ∧ True ∧ (∀ j, j < sz → w.cell? ⟨b, o + i.1 * sz + j, none⟩ = some (f j)) ∧ E w (fun _ => True) f y := fun i => by
    obtain ⟨cs', hcs, htr⟩ := hi i.1 (Nat.lt_of_lt_of_le i.2 hlm)
    obtain ⟨_, hlen, hat⟩ := World.cells?_some hcs
    obtain ⟨y, hy⟩ := hE _ _ _ htr
    have hat' : ∀ j, j < sz → w.cell? ((a.add (i.1 * sz)).add j) = some (cs'.getD j undef) := fun j hj => by
      rw [hat j hj, List.getD_eq_getElem?_getD, List.getElem?_eq_getElem (by omega)]
      rfl
    have hsp := hspot (Nat.lt_of_le_of_lt (Nat.zero_le _) i.2)
    obtain ⟨b, o, s⟩ := a
    cases hsp
    exact ⟨y, b, o, fun j => cs'.getD j undef, rfl, trivial, fun j hj => by have := hat' j hj; rwa [Addr.add_lit, Addr.add_lit] at this, hy⟩
  refine ⟨_, List.ofFn fun i : Fin len => (hel i).choose, rfl, some a, cap, by rw [List.length_ofFn], by rw [List.length_ofFn]; unfold maxLen at hm; omega, fun k y hy => ?_⟩
  rw [List.getElem?_ofFn] at hy
  split at hy
  · rename_i hk
    cases hy
    exact (hel ⟨k, hk⟩).choose_spec
  · cases hy
theorem one_at {cs : List Value} {o n : Nat} {v : Value} (h : (cs.drop o).take n = [v]) : cs.getD o undef = v := by
  have e : ((cs.drop o).take n)[0]? = some v := by rw [h]; rfl
  rw [List.getElem?_take] at e
  split at e
  · rw [List.getElem?_drop, Nat.add_zero] at e
    rw [List.getD_eq_getElem?_getD, e]
    rfl
  · cases e
theorem opens_str : Opens enc w sp held 9 EStr := fun fuel cs x h => by
  obtain ⟨s, rfl, _, hz⟩ := DataW.trod_string Tryz.underlying9 h
  exact ⟨s, rfl, by unfold maxLen at hz; unfold Sz; omega⟩
theorem at_field {fs : Array Field} {xs : List (DataW H × List MemPlace)} {n : Nat} (hlen : xs.length = fs.size) (hf : ∀ (i : Nat) (f : Field), fs[i]? = some f → DataW.trod enc Tryz.prog w 0 sp held n f.type ((cs.drop f.offset).take (Tryz.prog.cellsOf f.type)) = xs[i]?) {i : Nat} {f : Field} (hi : fs[i]? = some f) :
    ∃ x, DataW.trod enc Tryz.prog w 0 sp held n f.type ((cs.drop f.offset).take (Tryz.prog.cellsOf f.type)) = some x := by
  have hl : i < xs.length := by rw [hlen]; exact (Array.getElem?_eq_some_iff.1 hi).1
  exact ⟨_, (hf i f hi).trans (List.getElem?_eq_getElem hl)⟩
theorem opens_fld : Opens enc w sp held 161 EFld := fun fuel cs x h => by
  obtain ⟨xs, n, _, _, _, hlen, hf⟩ := DataW.trod_struct Tryz.underlying161 h
  obtain ⟨x0, h0⟩ := at_field hlen hf (i := 0) rfl
  obtain ⟨x1, h1⟩ := at_field hlen hf (i := 1) rfl
  obtain ⟨s, e0, _, z0⟩ := DataW.trod_string Tryz.underlying9 h0
  obtain ⟨t, e1, _, z1⟩ := DataW.trod_string Tryz.underlying9 h1
  unfold maxLen at z0 z1
  exact ⟨⟨s, t⟩, one_at e0, one_at e1, by unfold Sz; omega, by unfold Sz; omega⟩
theorem opens_nd : Opens enc w sp held 116 ENd := fun fuel cs x h => by
  obtain ⟨xs, n, _, _, _, hlen, hf⟩ := DataW.trod_struct Tryz.underlying116 h
  obtain ⟨x0, h0⟩ := at_field hlen hf (i := 0) rfl
  obtain ⟨x1, h1⟩ := at_field hlen hf (i := 1) rfl
  obtain ⟨x2, h2⟩ := at_field hlen hf (i := 2) rfl
  obtain ⟨i, e0, _, _⟩ := DataW.trod_int Tryz.underlying2 h0
  obtain ⟨v1, ls, e1, r1⟩ := open_row Tryz.underlying71 (sz := 1) (by kernel_rfl) (by decide) opens_str h1
  obtain ⟨v2, fs, e2, r2⟩ := open_row Tryz.underlying114 (sz := 2) (by kernel_rfl) (by decide) opens_fld h2
  exact ⟨⟨i, ls, fs⟩, one_at e0, by rw [show (fun j => cs.getD j undef) 1 = v1 from one_at e1]; exact r1, by rw [show (fun j => cs.getD j undef) 2 = v2 from one_at e2]; exact r2⟩
theorem opens_ed : Opens enc w sp held 119 EEd := fun fuel cs x h => by
  obtain ⟨xs, n, _, _, _, hlen, hf⟩ := DataW.trod_struct Tryz.underlying119 h
  obtain ⟨x0, h0⟩ := at_field hlen hf (i := 0) rfl
  obtain ⟨x1, h1⟩ := at_field hlen hf (i := 1) rfl
  obtain ⟨x2, h2⟩ := at_field hlen hf (i := 2) rfl
  obtain ⟨x3, h3⟩ := at_field hlen hf (i := 3) rfl
  obtain ⟨x4, h4⟩ := at_field hlen hf (i := 4) rfl
  obtain ⟨i, e0, _, _⟩ := DataW.trod_int Tryz.underlying2 h0
  obtain ⟨s, e1, _, z1⟩ := DataW.trod_string Tryz.underlying9 h1
  obtain ⟨a, e2, _, _⟩ := DataW.trod_int Tryz.underlying2 h2
  obtain ⟨b, e3, _, _⟩ := DataW.trod_int Tryz.underlying2 h3
  obtain ⟨v4, fs, e4, r4⟩ := open_row Tryz.underlying114 (sz := 2) (by kernel_rfl) (by decide) opens_fld h4
  unfold maxLen at z1
  exact ⟨⟨i, s, a, b, fs⟩, one_at e0, one_at e1, one_at e2, one_at e3, by rw [show (fun j => cs.getD j undef) 4 = v4 from one_at e4]; exact r4, by unfold Sz; omega⟩
set_option maxRecDepth 100000 in
/-- a graph that came in -/
theorem open_graph {r : Reach} {b0 : Nat} {v : Value} {d : DataW H} {p : List MemPlace} (hv : Value.okWide Tryz.prog w r b0 25 v) (h : DataW.Trod enc Tryz.prog w 0 sp held 25 v d p) : ∃ g, RGr w (fun _ => True) v g := by
  obtain ⟨cs, rfl, hsz⟩ := okWide_struct Tryz.underlying25 hv
  have hsz := hsz.trans (show Tryz.prog.cellsOf 25 = 2 by kernel_rfl)
  obtain ⟨fuel, hf0⟩ := h
  obtain ⟨xs, n, _, _, _, hlen, hf⟩ := DataW.trod_struct Tryz.underlying25 hf0
  obtain ⟨x0, h0⟩ := at_field hlen hf (i := 0) rfl
  obtain ⟨x1, h1⟩ := at_field hlen hf (i := 1) rfl
  obtain ⟨v1, ns, e1, r1⟩ := open_row Tryz.underlying22 (sz := 3) (by kernel_rfl) (by decide) opens_nd h0
  obtain ⟨v2, es, e2, r2⟩ := open_row Tryz.underlying23 (sz := 5) (by kernel_rfl) (by decide) opens_ed h1
  refine ⟨⟨ns, es⟩, v1, v2, ?_, r1, r2⟩
  obtain ⟨l⟩ := cs
  match l, hsz with
  | [c0, c1], _ =>
    have a := one_at e1
    have b := one_at e2
    simp [Value.cells] at a b
    rw [← a, ← b]
end
end Go.Proofs.YtllhimeffkefiaaGreatDoor
/- The library's variables as the program's text lays them give what the walks ask of the world. No further condition. -/
set_option linter.unusedVariables false
set_option linter.unusedSimpArgs false
namespace Go.Proofs.YtllhimeffkefiaaGreatDoor
open Go.RowKit

/-- a listed variable reads so -/
def Reads (w : World) (n : String) (d : DataW Unit) : Prop :=
  ∃ g t cs fuel p, Tryz.prog.globalNamed n = some g ∧ (Tryz.prog.globals[g]?).map (·.type) = some t ∧ w.var? Tryz.prog n = some cs ∧ DataW.trod (fun _ => ()) Tryz.prog w 0 (fun _ => true) false fuel t cs.toList = some (d, p)
theorem reads_of_vars {w : World} : ∀ {l : List (String × DataW Unit)} {ps : List MemPlace}, DataW.LaidVars Tryz.prog w l ps → ∀ n d, (n, d) ∈ l → Reads w n d
  | [], _, _, _, _, hm => by cases hm
  | (n', d') :: r, ps, h, n, d, hm => by
    obtain ⟨g, t, cs, fuel, p, q, h1, h2, h3, h4, h5, _⟩ := h
    rcases List.mem_cons.1 hm with e | e
    · cases e
      exact ⟨g, t, cs, fuel, p, h1, h2, h3, h4⟩
    · exact reads_of_vars h5 n d e
theorem reads_of_laid {w : World} {l : List (String × DataW Unit)} (h : laidMet Tryz.prog l w) {n : String} {d : DataW Unit} (hm : (n, d) ∈ l) : Reads w n d := h.elim fun _ h => reads_of_vars h.1 n d hm
theorem iface_of {w : World} {n nm : String} {d : DataW Unit} {g ti : Nat} {ms : Array (String × TypeId)} (hg : Tryz.prog.globalNamed n = some g) (ht : (Tryz.prog.globals[g]?).map (·.type) = some ti) (hi : Tryz.prog.underlying ti = some (.interface ms))
    (h : Reads w n (.iface nm d)) : ∃ ev, w.cell? ⟨g, 0, none⟩ = some ev ∧ ∃ te pe, ev = .iface te pe := by
  obtain ⟨g', t', cs, fuel, p, hg', ht', hv, hd⟩ := h
  obtain rfl := Option.some.inj (hg.symm.trans hg')
  obtain rfl := Option.some.inj (ht.symm.trans ht')
  have h0 := World.var?_cell hg hv 0
  cases fuel with
  | zero => simp [DataW.trod] at hd
  | succ fuel =>
    unfold DataW.trod at hd
    rw [hi] at hd
    split at hd <;> first
      | (simp_all; done)
      | (rename_i hcs; exact ⟨_, h0.trans (by rw [← Array.getElem?_toList, hcs]; rfl), _, _, rfl⟩)
theorem env_of {w : World} {n1 n2 : String} {d1 d2 : DataW Unit} (h0 : Reads w "internal/strconv.uint64pow10" (Lib.tabData .u64 Lib.pow10Tab)) (h1 : Reads w "strconv.ErrSyntax" (.iface n1 d1)) (h2 : Reads w "strconv.ErrRange" (.iface n2 d2)) : Env w := by
  have s1 := iface_of (g := 0) (by kernel_rfl) (by kernel_rfl) Tryz.underlying222 h1
  have s2 := iface_of (g := 1) (by kernel_rfl) (by kernel_rfl) Tryz.underlying222 h2
  obtain ⟨g, t, cs, fuel, p, hg, ht, hv, hd⟩ := h0
  have eg := Option.some.inj (gPow.symm.trans hg)
  subst eg
  have et := Option.some.inj ((show (Tryz.prog.globals[2]?).map (·.type) = some 244 by kernel_rfl).symm.trans ht)
  subst et
  have tab : Lib.TabIs Tryz.prog w "internal/strconv.uint64pow10" .u64 Lib.pow10Tab := by
    unfold Lib.TabIs
    rw [hv, ← Lib.cells_of_tab Tryz.underlying244 Tryz.underlying176 (by kernel_rfl) (by kernel_rfl) hd]
  refine ⟨tab, s1, s2, fun b hb => ?_⟩
  rcases hb with rfl | rfl | rfl
  · obtain ⟨ev, h, _⟩ := s1
    exact World.block_lt_of_cell? w ⟨_, 0, none⟩ h
  · obtain ⟨ev, h, _⟩ := s2
    exact World.block_lt_of_cell? w ⟨_, 0, none⟩ h
  · exact World.block_lt_of_cell? w ⟨_, 0, none⟩ (tab.cell gPow 0 (by decide))
end Go.Proofs.YtllhimeffkefiaaGreatDoor
