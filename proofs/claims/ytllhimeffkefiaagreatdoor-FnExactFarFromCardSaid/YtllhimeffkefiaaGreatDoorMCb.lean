/- Texts of one proof, joined in their order: each bears its own word of what it holds and on what condition. -/
import Derived.Test.YtllhimeffkefiaaGreatDoorMCa
import Derived.Test.YtllhimeffkefiaaGreatDoorML
import Derived.Test.YtllhimeffkefiaaGreatDoorMP
set_option linter.unusedVariables false
set_option linter.unusedSimpArgs false
/- The specification's distances back to a node. Condition: the table is of the links one way. -/
set_option linter.unusedVariables false
set_option linter.unusedSimpArgs false
namespace Go.Proofs.YtllhimeffkefiaaGreatDoor
open Go.RowKit Go.Sort

theorem Bk.ge {es : List Ed} {s u : Int} {k : Nat} (h : Bk es s k u) : s ≤ u := by
  cases k with
  | zero => rw [(bk_zero es s u).1 h]; exact Int.le_refl _
  | succ k =>
    obtain ⟨v, _, r⟩ := Dst.prev h
    exact r.2.1
theorem place_le {g : Gr} (h : Gw g) {i j : Nat} (hi : i < g.nodes.length) (hj : j < g.nodes.length) (q : g.nodes[i].id ≤ g.nodes[j].id) : i ≤ j := by
  by_cases z : j < i
  · have := h.rise j i hi z; omega
  · omega
theorem id_le {g : Gr} (h : Gw g) {i j : Nat} (hi : i < g.nodes.length) (hj : j < g.nodes.length) (q : i ≤ j) : g.nodes[i].id ≤ g.nodes[j].id := by
  by_cases e : i = j
  · subst e; exact Int.le_refl _
  · exact Int.le_of_lt (h.rise i j hj (by omega))
theorem Bk.ge' {g : Gr} (h : Gw g) {f j k : Nat} (hf : f < g.nodes.length) (hj : j < g.nodes.length) (q : Bk g.edges g.nodes[f].id k g.nodes[j].id) : f ≤ j := place_le h hf hj q.ge
/-- round d, come to (a, b) -/
structure FarI (g : Gr) (f : Nat) (hf : f < g.nodes.length) (d a b : Nat) (far : Nat → Int) : Prop where
  rng : ∀ (j : Nat) (hj : j < g.nodes.length), far j = -1 ∨ ∃ k : Nat, k ≤ d + 1 ∧ far j = k ∧ Bk g.edges g.nodes[f].id k g.nodes[j].id
  old : ∀ (j : Nat) (hj : j < g.nodes.length) (k : Nat), k ≤ d → Bk g.edges g.nodes[f].id k g.nodes[j].id → far j = k
  new : ∀ (j : Nat) (hj : j < g.nodes.length), Bk g.edges g.nodes[f].id (d + 1) g.nodes[j].id → (j < a → far j = ((d + 1 : Nat) : Int)) ∧ (j = a → (∃ (b' : Nat) (hb : b' < g.nodes.length), b' < b ∧ lnkd g.nodes g.edges a b' = true ∧ Bk g.edges g.nodes[f].id d g.nodes[b'].id) → far j = ((d + 1 : Nat) : Int))
theorem FarI.start {g : Gr} (h : Gw g) {f : Nat} (hf : f < g.nodes.length) : FarI g f hf 0 f f (fun j => if j = f then 0 else -1) := by
  refine ⟨fun j hj => ?_, fun j hj k hk q => ?_, fun j hj q => ⟨fun z => ?_, fun e z => ?_⟩⟩
  · by_cases e : j = f
    · subst e; exact .inr ⟨0, by omega, by simp, (bk_zero _ _ _).2 rfl⟩
    · exact .inl (by simp [e])
  · have : k = 0 := by omega
    subst this
    have := gOk_inj h hj hf ((bk_zero _ _ _).1 q)
    subst this
    simp
  · have := q.ge' h hf hj; omega
  · obtain ⟨b', hb, hlt, _, q'⟩ := z
    have := q'.ge' h hf hb; omega
theorem FarI.round {g : Gr} (h : Gw g) {f : Nat} {hf : f < g.nodes.length} {d : Nat} {far : Nat → Int} (hF : FarI g f hf d g.nodes.length f far) : FarI g f hf (d + 1) f f far := by
  refine ⟨fun j hj => ?_, fun j hj k hk q => ?_, fun j hj q => ⟨fun z => ?_, fun e z => ?_⟩⟩
  · rcases hF.rng j hj with e | ⟨k, h1, h2, h3⟩
    · exact .inl e
    · exact .inr ⟨k, by omega, h2, h3⟩
  · by_cases e : k = d + 1
    · subst e; exact (hF.new j hj q).1 hj
    · exact hF.old j hj k (by omega) q
  · have := q.ge' h hf hj; omega
  · obtain ⟨b', hb, hlt, _, q'⟩ := z
    have := q'.ge' h hf hb; omega
theorem FarI.row {g : Gr} (h : Gw g) {f : Nat} {hf : f < g.nodes.length} {d a : Nat} {far : Nat → Int} (hF : FarI g f hf d a g.nodes.length far) : FarI g f hf d (a + 1) f far := by
  refine ⟨hF.rng, hF.old, fun j hj q => ⟨fun z => ?_, fun e z => ?_⟩⟩
  · by_cases e : j = a
    · obtain ⟨v, hv, r⟩ := Dst.prev q
      obtain ⟨b', hb, _, rfl⟩ := gOk_pos h (arc_in h r.1).2
      subst e
      exact (hF.new j hj q).2 rfl ⟨b', hb, hb, (lnkd_iff h hj hb).2 r.1, hv⟩
    · exact (hF.new j hj q).1 (by omega)
  · obtain ⟨b', hb, hlt, _, q'⟩ := z
    have := q'.ge' h hf hb; omega
theorem FarI.skip {g : Gr} (h : Gw g) {f : Nat} {hf : f < g.nodes.length} {d a b : Nat} {far : Nat → Int} (hF : FarI g f hf d a b far) (ha : a < g.nodes.length) (hb : b < g.nodes.length) (hn : lnkd g.nodes g.edges a b = true → far b = d → 0 ≤ far a) : FarI g f hf d a (b + 1) far := by
  refine ⟨hF.rng, hF.old, fun j hj q => ⟨(hF.new j hj q).1, fun e z => ?_⟩⟩
  obtain ⟨b', hb', hlt, hm, q'⟩ := z
  by_cases e2 : b' = b
  · subst e2
    subst e
    have h0 := hn hm (hF.old b' hb' d (Nat.le_refl _) q')
    rcases hF.rng j hj with e | ⟨k, _, h2, h3⟩
    · rw [e] at h0; omega
    · have := h3.same q
      subst this
      exact h2
  · exact (hF.new j hj q).2 e ⟨b', hb', by omega, hm, q'⟩
theorem FarI.put {g : Gr} (h : Gw g) {f : Nat} {hf : f < g.nodes.length} {d a b : Nat} {far : Nat → Int} (hF : FarI g f hf d a b far) (ha : a < g.nodes.length) (hb : b < g.nodes.length) (hfa : f ≤ a) (hfb : f ≤ b) (hm : lnkd g.nodes g.edges a b = true) (hfar : far b = d) (hneg : far a < 0) : FarI g f hf d a (b + 1) (fun j => if j = a then ((d + 1 : Nat) : Int) else far j) ∧ Bk g.edges g.nodes[f].id (d + 1) g.nodes[a].id := by
  have hbk : Bk g.edges g.nodes[f].id d g.nodes[b].id := by
    rcases hF.rng b hb with e | ⟨k, _, h2, h3⟩
    · rw [e] at hfar; omega
    · have : k = d := by rw [h2] at hfar; omega
      subst this
      exact h3
  have hup : ¬ Upt (fun a b => Rz g.edges g.nodes[f].id b a) g.nodes[f].id d g.nodes[a].id := fun q => by
    obtain ⟨j, hj, hd⟩ := (upt_dst _).1 q
    have := hF.old a ha j hj hd
    omega
  have hnew : Bk g.edges g.nodes[f].id (d + 1) g.nodes[a].id := (dst_succ _).2 ⟨⟨_, hbk, (lnkd_iff h ha hb).1 hm, id_le h hf ha hfa, id_le h hf hb hfb⟩, hup⟩
  refine ⟨⟨fun j hj => ?_, fun j hj k hk q => ?_, fun j hj q => ?_⟩, hnew⟩
  · by_cases e : j = a
    · subst e; exact .inr ⟨d + 1, Nat.le_refl _, if_pos rfl, hnew⟩
    · simp only [if_neg e]; exact hF.rng j hj
  · by_cases e : j = a
    · subst e; have := hnew.same q; omega
    · simp only [if_neg e]; exact hF.old j hj k hk q
  · by_cases e : j = a
    · exact ⟨fun _ => if_pos e, fun _ _ => if_pos e⟩
    · simp only [if_neg e]
      exact ⟨(hF.new j hj q).1, fun e2 => absurd e2 e⟩
/-- the distances, all told -/
def FarA (g : Gr) (f : Nat) (hf : f < g.nodes.length) (far : Nat → Int) : Prop := (∀ (j : Nat) (hj : j < g.nodes.length) (k : Nat), far j = (k : Int) ↔ Bk g.edges g.nodes[f].id k g.nodes[j].id) ∧ ∀ (j : Nat) (hj : j < g.nodes.length), far j = -1 ∨ ∃ k : Nat, k < g.nodes.length ∧ far j = k
theorem FarI.all {g : Gr} (h : Gw g) {f : Nat} {hf : f < g.nodes.length} {d : Nat} {far : Nat → Int} (hF : FarI g f hf d f f far) (hno : ∀ (j : Nat) (hj : j < g.nodes.length), ¬ Bk g.edges g.nodes[f].id d g.nodes[j].id) : FarA g f hf far := by
  have hfi : g.nodes[f].id ∈ idsOf g.nodes := List.mem_map.2 ⟨_, List.getElem_mem hf, rfl⟩
  have hall : ∀ u, ¬ Bk g.edges g.nodes[f].id d u := fun u q => by
    have : u ∈ idsOf g.nodes := wlk_in hfi (fun a b r => (arc_in h r.1).1) q.1
    obtain ⟨j, hj, _, rfl⟩ := gOk_pos h this
    exact hno j hj q
  have hb : ∀ {j : Nat} (hj : j < g.nodes.length) {k : Nat}, Bk g.edges g.nodes[f].id k g.nodes[j].id → far j = k := fun {j} hj {k} q => hF.old j hj k (Nat.le_of_lt (upt_all hall q)) q
  refine ⟨fun j hj k => ⟨fun e => ?_, fun q => hb hj q⟩, fun j hj => ?_⟩
  · rcases hF.rng j hj with e2 | ⟨k', _, h2, h3⟩
    · rw [e2] at e; omega
    · have : k' = k := by rw [h2] at e; omega
      subst this
      exact h3
  · rcases hF.rng j hj with e2 | ⟨k', _, h2, h3⟩
    · exact .inl e2
    · have := h3.bound h hfi
      unfold idsOf at this
      rw [List.length_map] at this
      exact .inr ⟨k', by omega, h2⟩

/-! ### the walk -/
structure Lkt (W : World) (gO n : Nat) (gs : Nat → Nat) (M : Nat → Nat → Bool) : Prop where
  row : ∀ i, i < n → W.cell? ⟨gO, i, none⟩ = some (rowV gs n i)
  cell : ∀ i, i < n → ∀ j, j < n → W.cell? ⟨gs i, j, none⟩ = some (.bool (M i j))
theorem Lkt.below {W W' : World} {gO n : Nat} {gs : Nat → Nat} {M : Nat → Nat → Bool} (h : Lkt W gO n gs M) (hb : Below W.heap.size W W') : Lkt W' gO n gs M :=
  ⟨fun i hi => cell_kept (fun hl => hb.block _ hl) (h.row i hi), fun i hi j hj => cell_kept (fun hl => hb.block _ hl) (h.cell i hi j hj)⟩
structure FarW (w W : World) (v : Value) (n : Nat) (far : Nat → Int) : Prop where
  below : Below w.heap.size w W
  b0 : W.cell? ⟨w.heap.size, 0, none⟩ = some v
  cell : ∀ j, j < n → W.cell? ⟨w.heap.size + 1, j, none⟩ = some (.int .i64 (far j))
  fro : ∀ o, W.frozen? ⟨w.heap.size + 1, o, none⟩ = false
theorem FarW.put {w W : World} {v : Value} {n : Nat} {far : Nat → Int} (h : FarW w W v n far) {a : Nat} (ha : a < n) (x : Int) : FarW w (W.setCell ⟨w.heap.size + 1, a, none⟩ (.int .i64 x)) v n (fun j => if j = a then x else far j) := by
  refine ⟨⟨h.below.os, h.below.tape, h.below.output, by simp [World.setCell]; exact h.below.size, fun b hb => (Below.heap_setCell _ _ _ _ (by show b ≠ w.heap.size + 1; omega)).trans (h.below.block b hb)⟩, (World.cell?_setCell_other _ _ _ _ (by simp)).trans h.b0, fun j hj => ?_, fun o => (World.frozen?_setCell _ _ _ _).trans (h.fro o)⟩
  by_cases e : j = a
  · subst e
    rw [if_pos rfl]
    exact World.cell?_setCell_same _ _ _ (h.cell j hj)
  · rw [if_neg e]
    exact (World.cell?_setCell_other _ _ _ _ (fun q => e (by injection q with q1 q2; omega))).trans (h.cell j hj)
theorem FarW.congr {w W : World} {v : Value} {n : Nat} {far far' : Nat → Int} (h : FarW w W v n far) (he : ∀ j, j < n → far j = far' j) : FarW w W v n far' := ⟨h.below, h.b0, fun j hj => by rw [← he j hj]; exact h.cell j hj, h.fro⟩
def BackR (g : Gr) (f : Nat) (hf : f < g.nodes.length) (w : World) (e : Ending) (w' : World) : Prop := ∃ (gF : Nat) (far : Nat → Int), e = .returned (.slice (some ⟨gF, 0, none⟩) g.nodes.length g.nodes.length) ∧ w.heap.size ≤ gF ∧ (∀ j, j < g.nodes.length → w'.cell? ⟨gF, j, none⟩ = some (.int .i64 (far j))) ∧ FarA g f hf far ∧ Below w.heap.size w w'
set_option maxHeartbeats 4000000 in
set_option maxRecDepth 100000 in
theorem back_any (w : World) (g : Gr) (hw : Gw g) (gO cO : Nat) (gs : Nat → Nat) (hM : Lkt w gO g.nodes.length gs (lnkd g.nodes g.edges)) (f : Nat) (hf : f < g.nodes.length) :
    Calls Tryz.prog 81 #[.agg #[.slice (some ⟨gO, 0, none⟩) g.nodes.length cO], .int .i64 f] w (BackR g f hf w) := by
  have hn := hw.n
  obtain ⟨n, hne⟩ : ∃ n, g.nodes.length = n := ⟨_, rfl⟩
  have HN := Lib.hid hne
  rw [hne] at hn hM
  unfold BackR
  rw [hne]
  have hf2 : f < n := by omega
  have hfI : (f : Int) < n := by omega
  have hnI : (n : Int) ≤ 200 := by omega
  clear hne
  obtain ⟨CN, hCN, hCNb, hmkN⟩ := make_one (T := 84) (E := 3) (z := .int .i64 0) (by' := 8) Tryz.underlying84 (by kernel_rfl) rfl (by decide) n (by omega)
  go_enter Tryz.func81, Tryz.ntmps81
  have e1 : (w.alloc (.cells #[.slice (some ⟨gO, 0, none⟩) n cO] 66)).heap.size = w.heap.size + 1 := by simp
  have hW0 : FarW w ((w.alloc (.cells #[.slice (some ⟨gO, 0, none⟩) n cO] 66)).alloc (.cells CN 3)) (.slice (some ⟨gO, 0, none⟩) n cO) n (fun _ => 0) :=
    ⟨((Below.refl _ w).alloc (Nat.le_refl _) _).alloc (by simp) _, cell_alloc (by rw [World.cell?_alloc_mark]; rfl) _, fun j hj => by rw [← e1, World.cell?_alloc_mark]; exact hCNb j hj, fun o => by rw [← e1, World.frozen?_alloc_mark]; simp⟩
  go_upto_region 3 with fail
  generalize (w.alloc (.cells #[.slice (some ⟨gO, 0, none⟩) n cO] 66)).alloc (.cells CN 3) = W1 at hW0 ⊢
  clear e1
  go_loopw [6] (fun iv wr => ∃ i : Nat, i ≤ n ∧ iv = .int .i64 i ∧ FarW w wr (.slice (some ⟨gO, 0, none⟩) n cO) n (fun j => if j < i then -1 else 0)) (fun iv _ => n - (intOf iv).toNat)
  case atStart => exact ⟨0, by omega, rfl, by simpa using hW0⟩
  case round =>
    clear hW0
    obtain ⟨i, hi, rfl, F⟩ := hrel
    by_cases hlt : i < n
    · have f0 : decide ((i : Int) < n) = true := decide_eq_true (by omega)
      have f0' : decide (i < n) = true := decide_eq_true hlt
      have hlt2 : (i : Int) < n := by omega
      have z1 := F.cell i hlt
      have z2 := F.fro i
      have F2 := F.put hlt (-1)
      rw [show (fun j => if j = i then (-1 : Int) else if j < i then -1 else 0) = (fun j => if j < i + 1 then -1 else 0) by funext j; by_cases e : j = i <;> by_cases e2 : j < i <;> by_cases e3 : j < i + 1 <;> simp [e, e2, e3] <;> omega] at F2
      go_wp2_with fail
      go_round
      case rel => exact ⟨i + 1, by omega, by go_num, F2⟩
      case measure => first | (simp [intOf]; done) | (simp [intOf]; omega)
    · have hi3 : i = n := by omega
      subst hi3
      have f0 : decide ((i : Int) < i) = false := decide_eq_false (by omega)
      have z1 := F.cell f hf2
      have z2 := F.fro f
      have F2 := F.put hf2 0
      have F3 := F2.congr (far' := fun j => if j = f then 0 else -1) (fun j hj => by by_cases e : j = f <;> simp [e, hj])
      have hI0 := FarI.start hw hf
      go_upto_region 7 with fail
      clear F F2 z1 z2
      generalize wr.setCell ⟨w.heap.size + 1, f, none⟩ (.int .i64 0) = wS at F3 ⊢
      go_upto_region 8 with fail
      go_loopw [7, 8, 9, 10] (fun dv mv _ _ wr => ∃ (d : Nat) (more : Bool) (far : Nat → Int), dv = .int .i64 d ∧ mv = .bool more ∧ FarW w wr (.slice (some ⟨gO, 0, none⟩) i cO) i far ∧ d ≤ i + 1 ∧ (more = true → FarI g f hf d f f far ∧ d ≤ i ∧ ∀ j, j < i → far j ≠ ((d + 1 : Nat) : Int)) ∧ (more = false → FarA g f hf far)) (fun dv _ _ _ _ => i + 2 - (intOf dv).toNat)
      case atStart => exact ⟨0, true, _, by first | rfl | go_num, rfl, F3, by omega, fun _ => ⟨hI0, by omega, fun j hj e => by by_cases q : j = f <;> simp [q] at e⟩, fun q => by cases q⟩
      case round =>
        clear F3 hI0
        obtain ⟨d, more, far, rfl, rfl, F, hd, hT, hA⟩ := hrel
        cases more with
        | false =>
          have HA := Lib.hid (hA rfl)
          clear hT hA
          go_wp2_with fail
          go_ret
          exact ⟨w.heap.size + 1, far, rfl, by omega, F.cell, HA.out, F.below⟩
        | true =>
          obtain ⟨hI, hd2, hno⟩ := hT rfl
          clear hT hA
          have hdI : (d : Int) ≤ 200 := by omega
          have hw1 : IntKind.i64.wrap ((d : Int) + 1) = (d : Int) + 1 := wrap64_of _ (by omega) (by omega)
          go_upto_region 11 with fail
          go_wp2_with fail
          go_loopw [8, 9, 10] (fun mv av _ wr => ∃ (a : Nat) (more : Bool) (far : Nat → Int), f ≤ a ∧ a ≤ i ∧ av = .int .i64 a ∧ mv = .bool more ∧ FarW w wr (.slice (some ⟨gO, 0, none⟩) i cO) i far ∧ FarI g f hf d a f far ∧ (more = true → ∃ (j : Nat) (hj : j < g.nodes.length), Bk g.edges g.nodes[f].id (d + 1) g.nodes[j].id) ∧ (more = false → ∀ j, j < i → far j ≠ ((d + 1 : Nat) : Int))) (fun _ av _ _ => i - (intOf av).toNat)
          case atStart => exact ⟨f, false, far, Nat.le_refl _, by omega, rfl, rfl, F, hI, (fun q => by cases q), fun _ => hno⟩
          case round =>
            clear F hI hno
            obtain ⟨a, more, far, hfa, hai, rfl, rfl, F, hI, hmt, hmf⟩ := hrel
            by_cases hlta : a < i
            · have g0 : decide ((a : Int) < i) = true := decide_eq_true (by omega)
              have g0' : decide (a < i) = true := decide_eq_true hlta
              have g0'' : (a : Int) < i := by omega
              go_upto_region 14 with fail
              go_wp2_with fail
              go_loopw [8, 10] (fun mv bv wr => ∃ (b : Nat) (more : Bool) (far : Nat → Int), f ≤ b ∧ b ≤ i ∧ bv = .int .i64 b ∧ mv = .bool more ∧ FarW w wr (.slice (some ⟨gO, 0, none⟩) i cO) i far ∧ FarI g f hf d a b far ∧ (more = true → ∃ (j : Nat) (hj : j < g.nodes.length), Bk g.edges g.nodes[f].id (d + 1) g.nodes[j].id) ∧ (more = false → ∀ j, j < i → far j ≠ ((d + 1 : Nat) : Int))) (fun _ bv _ => i - (intOf bv).toNat)
              case atStart => exact ⟨f, more, far, Nat.le_refl _, by omega, rfl, rfl, F, hI, hmt, hmf⟩
              case round =>
                clear F hI hmt hmf
                obtain ⟨b, more, far, hfb, hbi, rfl, rfl, F, hI, hmt, hmf⟩ := hrel
                by_cases hltb : b < i
                · have k0 : decide ((b : Int) < i) = true := decide_eq_true (by omega)
                  have k0' : decide (b < i) = true := decide_eq_true hltb
                  have k0'' : (b : Int) < i := by omega
                  have hMw := hM.below F.below
                  have z0 := F.b0
                  have z1 := hMw.row a hlta
                  unfold rowV at z1
                  have z2 := hMw.cell a hlta b hltb
                  have z3 := F.cell b hltb
                  have z4 := F.cell a hlta
                  have z5 := F.fro a
                  have hag : a < g.nodes.length := by rw [HN.out]; exact hlta
                  have hbg : b < g.nodes.length := by rw [HN.out]; exact hltb
                  have hskip := fun q => hI.skip hw hag hbg q
                  have hput := fun q1 q2 q3 => hI.put hw hag hbg hfa hfb q1 q2 q3
                  have F2 := F.put hlta ((d + 1 : Nat) : Int)
                  obtain ⟨fb, hfbe⟩ : ∃ x, far b = x := ⟨_, rfl⟩
                  obtain ⟨fa, hfae⟩ : ∃ x, far a = x := ⟨_, rfl⟩
                  rw [hfbe] at z3
                  rw [hfae] at z4
                  have HFB := Lib.hid hfbe
                  have HFA := Lib.hid hfae
                  clear hMw hfbe hfae
                  cases hm : lnkd g.nodes g.edges a b with
                  | false =>
                    rw [hm] at z2
                    have hI2 := hskip (fun q => by rw [hm] at q; cases q)
                    clear hskip hput F2 hm z4 z5
                    go_wp2_with fail
                    go_round
                    case rel => exact ⟨b + 1, more, far, by omega, by omega, by first | rfl | go_num, rfl, F, hI2, hmt, hmf⟩
                    case measure => first | (simp [intOf]; done) | (simp [intOf]; omega)
                  | true =>
                    rw [hm] at z2
                    by_cases hdb : fb = d
                    · have m0 : decide (fb = (d : Int)) = true := decide_eq_true hdb
                      have m0' : (fb == (d : Int)) = true := by rw [beq_iff_eq]; exact hdb
                      by_cases hneg : fa < 0
                      · have m1 : decide (fa < 0) = true := decide_eq_true hneg
                        obtain ⟨hI2, hbk⟩ := hput hm (by rw [HFB.out]; exact hdb) (by rw [HFA.out]; exact hneg)
                        have HBK : Hid (∃ (j : Nat) (hj : j < g.nodes.length), Bk g.edges g.nodes[f].id (d + 1) g.nodes[j].id) := Lib.hid ⟨_, _, hbk⟩
                        clear hskip hput hm hbk hmt hmf
                        go_wp2_with fail
                        go_round
                        case rel => exact ⟨b + 1, true, _, by omega, by omega, by first | rfl | go_num, rfl, F2, hI2, (fun _ => HBK.out), fun q => by cases q⟩
                        case measure => first | (simp [intOf]; done) | (simp [intOf]; omega)
                      · have m1 : decide (fa < 0) = false := decide_eq_false hneg
                        have hI2 := hskip (fun _ _ => by rw [HFA.out]; omega)
                        clear hskip hput F2 hm z5
                        go_wp2_with fail
                        go_round
                        case rel => exact ⟨b + 1, more, far, by omega, by omega, by first | rfl | go_num, rfl, F, hI2, hmt, hmf⟩
                        case measure => first | (simp [intOf]; done) | (simp [intOf]; omega)
                    · have m0 : decide (fb = (d : Int)) = false := decide_eq_false hdb
                      have m0' : (fb == (d : Int)) = false := by rw [beq_eq_false_iff_ne]; exact hdb
                      have hI2 := hskip (fun _ q => by rw [HFB.out] at q; exact absurd q hdb)
                      clear hskip hput F2 hm z4 z5
                      go_wp2_with fail
                      go_round
                      case rel => exact ⟨b + 1, more, far, by omega, by omega, by first | rfl | go_num, rfl, F, hI2, hmt, hmf⟩
                      case measure => first | (simp [intOf]; done) | (simp [intOf]; omega)
                · have hb3 : b = i := by omega
                  subst hb3
                  have k0 : decide ((b : Int) < b) = false := decide_eq_false (by omega)
                  have hI2 := FarI.row hw (by rw [HN.out]; exact hI)
                  clear hI
                  go_wp2_with fail
                  go_round
                  case rel => exact ⟨a + 1, more, far, by omega, by omega, by first | rfl | go_num, rfl, F, hI2, hmt, hmf⟩
                  case measure => first | (simp [intOf]; done) | (simp [intOf]; omega)
            · have ha3 : a = i := by omega
              subst ha3
              have g0 : decide ((a : Int) < a) = false := decide_eq_false (by omega)
              have hI2 := FarI.round hw (by rw [HN.out]; exact hI)
              have hend : more = true → d + 1 ≤ a := fun q => by
                obtain ⟨j, hj, hb⟩ := hmt q
                have := hb.bound hw (List.mem_map.2 ⟨_, List.getElem_mem hf, rfl⟩)
                unfold idsOf at this
                rw [List.length_map, HN.out] at this
                omega
              have hnx : ∀ j, j < a → far j ≠ ((d + 1 + 1 : Nat) : Int) := fun j hj e => by
                rcases hI.rng j (by rw [HN.out]; exact hj) with e2 | ⟨k, hk, h2, _⟩
                · rw [e2] at e; omega
                · rw [h2] at e; omega
              have hall : more = false → FarA g f hf far := fun q => hI2.all hw (fun j hj hb => hmf q j (by rw [← HN.out]; exact hj) (hI2.old j hj (d + 1) (Nat.le_refl _) hb))
              clear hI hmt hmf
              go_wp2_with fail
              go_round
              case rel => exact ⟨d + 1, more, far, by first | rfl | go_num, rfl, F, by omega, (fun q => ⟨hI2, hend q, hnx⟩), hall⟩
              case measure => first | (simp [intOf]; done) | (simp [intOf]; omega)
end Go.Proofs.YtllhimeffkefiaaGreatDoor
