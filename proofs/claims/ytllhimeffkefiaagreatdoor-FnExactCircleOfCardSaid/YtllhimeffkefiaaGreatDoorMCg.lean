/- Texts of one proof, joined in their order: each bears its own word of what it holds and on what condition. -/
import Derived.Test.YtllhimeffkefiaaGreatDoorMCa
import Derived.Test.YtllhimeffkefiaaGreatDoorMWe
set_option linter.unusedVariables false
set_option linter.unusedSimpArgs false
/- impl's row of nodes in which all edges go on: where it says that there is one there is no circle. Condition: a right graph. -/
set_option linter.unusedVariables false
set_option linter.unusedSimpArgs false
namespace Go.Proofs.YtllhimeffkefiaaGreatDoor
open Go.RowKit Go.Sort

theorem look116 {w : World} {b : Nat} {ks : List Int} {f : Int → Int} (h : MapK 3 w b ks f) {id x : Int} (hi : I64 id) (hx : f id = x) : (Instr.lookup 131 (.map (some b)) (.int .i64 id) false).run Tryz.prog w = .ok (.int .i64 x) w := hx ▸ h.look Tryz.underlying131 Tryz.underlying3 (zero3 w) hi
/-- the graph's box, the map of what waits -/
structure S1 (w W : World) (bg bw : Nat) (v1 v2 : Value) (ks : List Int) (f : Int → Int) : Prop where
  g0 : W.cell? ⟨bg, 0, none⟩ = some v1
  g1 : W.cell? ⟨bg, 1, none⟩ = some v2
  mw : MapK 3 W bw ks f
  ord : bg < bw
  below : Below bg w W
theorem S1.step {w W W' : World} {bg bw : Nat} {v1 v2 : Value} {ks : List Int} {f : Int → Int} (h : S1 w W bg bw v1 v2 ks f) (hb : Below W.heap.size W W') : S1 w W' bg bw v1 v2 ks f :=
  ⟨cell_kept (fun hl => hb.block bg hl) h.g0, cell_kept (fun hl => hb.block bg hl) h.g1, h.mw.below (hb.block bw h.mw.lt), h.ord, h.below.trans (hb.mono (Nat.le_of_lt (Nat.lt_trans h.ord h.mw.lt)))⟩
theorem S1.put {w W : World} {bg bw : Nat} {v1 v2 : Value} {ks : List Int} {f : Int → Int} (h : S1 w W bg bw v1 v2 ks f) (hn : ks.length < 1048576) {id x : Int} (hk : id ∈ ks) (hi : I64 id) (hx : I64 x) :
    ∃ W', (Instr.mapUpdate 131 (.map (some bw)) (.int .i64 id) (.int .i64 x)).run Tryz.prog W = .ok () W' ∧ S1 w W' bg bw v1 v2 ks (upd f id x) ∧ W.grownBy W' (some bw) := by
  obtain ⟨W', hr, hm, hg⟩ := h.mw.put Tryz.underlying131 Tryz.underlying3 hn hk hi hx
  have ho := h.ord
  have hl := h.mw.lt
  have hne : some bg ≠ some bw := fun e => by injection e; omega
  exact ⟨W', hr, ⟨cell_kept (fun hl => hg.block bg hl hne) h.g0, cell_kept (fun hl => hg.block bg hl hne) h.g1, hm, ho,
    ⟨hg.os.trans h.below.os, hg.tape.trans h.below.tape, hg.output.trans h.below.output, Nat.le_trans h.below.size hg.size, fun b hb => (hg.block b (by omega) (fun e => by injection e with e; omega)).trans (h.below.block b hb)⟩⟩, hg⟩
/-- and the map of what is gone, the row of what is out -/
structure So (w W : World) (bg bw bn : Nat) (v1 v2 : Value) (ks : List Int) (f h : Int → Int) (ov : Value) (k : Nat) (out : List Int) : Prop where
  s : S1 w W bg bw v1 v2 ks f
  mn : MapK 3 W bn ks h
  ord : bw < bn
  row : W.ownsRow (bn + 1) 2 1 ov k (out.map (Value.int .i64))
theorem So.step {w W W' : World} {bg bw bn : Nat} {v1 v2 ov : Value} {ks out : List Int} {f h : Int → Int} {k : Nat} (H : So w W bg bw bn v1 v2 ks f h ov k out) (hb : Below W.heap.size W W') : So w W' bg bw bn v1 v2 ks f h ov k out :=
  ⟨H.s.step hb, H.mn.below (hb.block bn H.mn.lt), H.ord, own_kept H.row (fun b _ hl => hb.block b hl)⟩
theorem So.putw {w W : World} {bg bw bn : Nat} {v1 v2 ov : Value} {ks out : List Int} {f h : Int → Int} {k : Nat} (H : So w W bg bw bn v1 v2 ks f h ov k out) (hn : ks.length < 1048576) {id x : Int} (hk : id ∈ ks) (hi : I64 id) (hx : I64 x) :
    ∃ W', (Instr.mapUpdate 131 (.map (some bw)) (.int .i64 id) (.int .i64 x)).run Tryz.prog W = .ok () W' ∧ So w W' bg bw bn v1 v2 ks (upd f id x) h ov k out ∧ W.grownBy W' (some bw) := by
  obtain ⟨W', hr, hs, hg⟩ := H.s.put hn hk hi hx
  have ho := H.ord
  exact ⟨W', hr, ⟨hs, H.mn.below (hg.block bn H.mn.lt (fun e => by injection e; omega)), ho, own_kept H.row (fun b hb hl => hg.block b hl (fun e => by injection e; omega))⟩, hg⟩
theorem So.putn {w W : World} {bg bw bn : Nat} {v1 v2 ov : Value} {ks out : List Int} {f h : Int → Int} {k : Nat} (H : So w W bg bw bn v1 v2 ks f h ov k out) (hn : ks.length < 1048576) {id x : Int} (hk : id ∈ ks) (hi : I64 id) (hx : I64 x) :
    ∃ W', (Instr.mapUpdate 131 (.map (some bn)) (.int .i64 id) (.int .i64 x)).run Tryz.prog W = .ok () W' ∧ So w W' bg bw bn v1 v2 ks f (upd h id x) ov k out ∧ W.grownBy W' (some bn) := by
  obtain ⟨W', hr, hm, hg⟩ := H.mn.put Tryz.underlying131 Tryz.underlying3 hn hk hi hx
  have ho := H.ord
  have ho2 := H.s.ord
  have hl := H.mn.lt
  have hne : some bg ≠ some bn := fun e => by injection e; omega
  have hne2 : some bw ≠ some bn := fun e => by injection e; omega
  exact ⟨W', hr, ⟨⟨cell_kept (fun hl => hg.block bg hl hne) H.s.g0, cell_kept (fun hl => hg.block bg hl hne) H.s.g1, H.s.mw.below (hg.block bw H.s.mw.lt hne2), ho2,
    ⟨hg.os.trans H.s.below.os, hg.tape.trans H.s.below.tape, hg.output.trans H.s.below.output, Nat.le_trans H.s.below.size hg.size, fun b hb => (hg.block b (by omega) (fun e => by injection e with e; omega)).trans (H.s.below.block b hb)⟩⟩, hm, ho, own_kept H.row (fun b hb hl => hg.block b hl (fun e => by injection e; omega))⟩, hg⟩
theorem So.app {w W W2 w6 : World} {bg bw bn : Nat} {v1 v2 ov : Value} {ks out : List Int} {f h : Int → Int} {k : Nat} (H : So w W bg bw bn v1 v2 ks f h ov k out) (hb : Below W.heap.size W W2) {g c : Nat} {x : Int}
    (hown : w6.ownsRow (bn + 1) 2 1 (.slice (some ⟨g, 0, none⟩) (k + 1) c) (k + 1) (out.map (Value.int .i64) ++ [.int .i64 x])) (hg : W2.grownBy w6 ov.ownBlock) : So w w6 bg bw bn v1 v2 ks f h (.slice (some ⟨g, 0, none⟩) (k + 1) c) (k + 1) (out ++ [x]) := by
  have H2 := H.step hb
  have hlo : ∀ q, ov.ownBlock = some q → bn + 1 ≤ q := fun q e => (H2.row.lt q e).1
  have ho := H.ord
  have ho2 := H.s.ord
  have hl2 := H2.mn.lt
  have hk6 : ∀ b, b ≤ bn → w6.heap[b]? = W2.heap[b]? := fun b hb2 => hg.block b (by omega) (fun e => by have := hlo b e.symm; omega)
  refine ⟨⟨cell_kept (fun _ => hk6 bg (by omega)) H2.s.g0, cell_kept (fun _ => hk6 bg (by omega)) H2.s.g1, H2.s.mw.below (hk6 bw (by omega)), ho2, ⟨hg.os.trans H2.s.below.os, hg.tape.trans H2.s.below.tape, hg.output.trans H2.s.below.output, Nat.le_trans H2.s.below.size hg.size, fun b hb2 => (hk6 b (by omega)).trans (H2.s.below.block b hb2)⟩⟩, H2.mn.below (hk6 bn (Nat.le_refl _)), ho, ?_⟩
  rw [List.map_append]
  exact hown
theorem own_shapeG {w : World} {base : Nat} {e : TypeId} {sz : Nat} {v : Value} {n : Nat} {xs : List Value} (h : w.ownsRow base e sz v n xs) : ∃ a c, v = .slice a n c := by
  rcases h.2 with ⟨q, hn⟩ | ⟨g, cap, cur, q, _⟩
  · subst hn; exact ⟨_, _, q⟩
  · exact ⟨_, _, q⟩
def SortR (g : Gr) (w : World) (e : Ending) (w' : World) : Prop := ∃ v ok, e = .returned (.tuple #[v, .bool ok]) ∧ (ok = true → ∀ s L, ¬ Cyc g.edges s L) ∧ Below w.heap.size w w'
set_option maxHeartbeats 4000000 in
set_option maxRecDepth 100000 in
theorem sort_any (w : World) (S : Nat → Prop) (v : Value) (g : Gr) (h : RGr w S v g) (hw : Gw g) : Calls Tryz.prog 49 #[v] w (SortR g w) := by
  have h0 := h.within
  obtain ⟨v1, v2, rfl, h1, h2⟩ := h
  obtain ⟨a1, c1, rfl⟩ := h1.shape
  obtain ⟨a2, c2, rfl⟩ := h2.shape
  obtain ⟨n1, hn1⟩ : ∃ n, g.nodes.length = n := ⟨_, rfl⟩
  obtain ⟨n2, hn2⟩ : ∃ n, g.edges.length = n := ⟨_, rfl⟩
  have HN1 := Lib.hid hn1
  have HN2 := Lib.hid hn2
  have hl1 := hw.n
  have hl2 := hw.e
  rw [hn1] at h1 hl1
  rw [hn2] at h2 hl2
  rw [hn1, hn2] at h0
  rw [hn1, hn2]
  have h1I : (n1 : Int) ≤ 200 := by omega
  have h2I : (n2 : Int) ≤ 400 := by omega
  obtain ⟨ks, HKS⟩ : ∃ ks, Hid (idsOf g.nodes = ks) := ⟨_, Lib.hid rfl⟩
  have hkl : ks.length < 1048576 := by rw [← HKS.out]; unfold idsOf; rw [List.length_map]; omega
  have HKI : Hid (∀ x ∈ ks, 1 ≤ x ∧ x ≤ 1000000000000) := Lib.hid (fun x hx => hw.id x (by rw [HKS.out]; exact hx))
  have HKE : Hid (∀ (j : Nat) (hj : j < g.edges.length), g.edges[j].dst ∈ ks) := Lib.hid (fun j hj => by rw [← HKS.out]; exact (hw.ends j hj).2)
  clear hn1 hn2
  have hmm := @run_makeMap Tryz.prog
  go_enter Tryz.func49, Tryz.ntmps49
  go_upto_region 3 with fail
  have e1 : (w.alloc (.cells #[.slice a1 n1 c1, .slice a2 n2 c2] 36)).heap.size = w.heap.size + 1 := by simp
  have hS0 : S1 w ((w.alloc (.cells #[.slice a1 n1 c1, .slice a2 n2 c2] 36)).alloc (.map #[] 0)) w.heap.size (w.heap.size + 1) (.slice a1 n1 c1) (.slice a2 n2 c2) ks (wtF (g.edges.take 0) []) := by
    have hm := MapK.made 3 (w.alloc (.cells #[.slice a1 n1 c1, .slice a2 n2 c2] 36)) ks
    rw [e1, ← wt_nil] at hm
    exact ⟨cell_alloc (by rw [World.cell?_alloc_mark]; rfl) _, cell_alloc (by rw [World.cell?_alloc_mark]; rfl) _, hm, by omega, ((Below.refl _ w).alloc (Nat.le_refl _) _).alloc (by simp) _⟩
  obtain ⟨bg, hbg⟩ : ∃ b, w.heap.size = b := ⟨_, rfl⟩
  rw [hbg] at hS0
  simp only [hbg]
  have HBG := Lib.hid hbg
  obtain ⟨bw, hbw⟩ : ∃ b, bg + 1 = b := ⟨_, rfl⟩
  rw [hbw] at hS0
  simp only [hbw]
  clear e1
  generalize (w.alloc (.cells #[.slice a1 n1 c1, .slice a2 n2 c2] 36)).alloc (.map #[] 0) = W0 at hS0 ⊢
  have q1 := hS0.g1
  clear hbg hbw
  go_upto_region 4 with fail
  clear q1
  go_loopw [18] (fun iv wr => ∃ j : Nat, j ≤ n2 ∧ iv = .int .i64 j ∧ S1 w wr bg bw (.slice a1 n1 c1) (.slice a2 n2 c2) ks (wtF (g.edges.take j) [])) (fun iv _ => n2 - (intOf iv).toNat)
  case atStart => exact ⟨0, by omega, rfl, hS0⟩
  case round =>
    clear hS0
    obtain ⟨j, hj, rfl, hS⟩ := hrel
    by_cases hlt : j < n2
    · have f0 : decide ((j : Int) < n2) = true := decide_eq_true (by omega)
      have f0' : decide (j < n2) = true := decide_eq_true hlt
      have hlt2 : (j : Int) < n2 := by omega
      have hjE : j < g.edges.length := by rw [HN2.out]; exact hlt
      have hEr := h2.below EEd.kept (HBG.out.symm ▸ hS.below)
      obtain ⟨bE, oE, l3, d3, rfl, -, ed0, ed1, ed2, ed3, ed4, -, -⟩ := REd.at hEr hjE
      have hT := wt_snoc hjE
      have hmem := HKE.out j hjE
      have hc := wt_le (g.edges.take j) [] g.edges[j].dst
      rw [List.length_take] at hc
      have hc2 : wtF (g.edges.take j) [] g.edges[j].dst ≤ 400 ∧ 0 ≤ wtF (g.edges.take j) [] g.edges[j].dst := by unfold wtF; omega
      generalize g.edges[j] = ed at ed0 ed1 ed2 ed3 ed4 hT hmem hc2
      obtain ⟨yi, yt, ys, yd, yf⟩ := ed
      simp only at ed0 ed1 ed2 ed3 ed4 hT hmem hc2
      obtain ⟨yl, hyl⟩ : ∃ x, yf.length = x := ⟨_, rfl⟩
      rw [hyl] at ed4
      clear hyl hEr hc
      have hI := id_I64 (HKI.out yd hmem)
      have hba := (Below.refl _ wr).alloc (Nat.le_refl _) (.cells #[.int .i64 yi, .string yt, .int .i64 ys, .int .i64 yd, .slice l3 yl d3] 122)
      have hS1 := hS.step hba
      have hk : wtF (g.edges.take j) [] yd = wtF (g.edges.take j) [] yd := rfl
      obtain ⟨A, hA⟩ : ∃ A, wtF (g.edges.take j) [] yd = A := ⟨_, rfl⟩
      have el := look116 hS1.mw hI hA
      obtain ⟨W', hr, hS2, hg⟩ := hS1.put hkl hmem hI (show I64 (A + 1) by rw [hA] at hc2; exact ⟨by omega, by omega⟩)
      rw [hA] at hT hc2
      rw [hT] at hS2
      have y3 : (wr.alloc (.cells #[.int .i64 yi, .string yt, .int .i64 ys, .int .i64 yd, .slice l3 yl d3] 122)).cell? ⟨wr.heap.size, 3, none⟩ = some (.int .i64 yd) := by rw [World.cell?_alloc_mark]; rfl
      obtain ⟨hc3, hc4⟩ := hc2
      have HS2 := Lib.hid hS2
      clear hS hS1 hba hT hA hk hS2 hg
      go_wp2_with fail
      go_round
      case rel => exact ⟨j + 1, by omega, by go_num, HS2.out⟩
      case measure => simp [intOf]; omega
    · have hj3 : n2 = j := by omega
      subst hj3
      have f0 : decide ((n2 : Int) < n2) = false := decide_eq_false (by omega)
      rw [List.take_of_length_le (by rw [HN2.out]; omega)] at hS
      go_upto_region 9 with fail
      clear f0 hlt hj
      have hO0 : So w (wr.alloc (.map #[] 0)) bg bw wr.heap.size (.slice a1 n1 c1) (.slice a2 n2 c2) ks (wtF g.edges []) (goneF []) (.slice none 0 0) ([] : List Int).length [] :=
        ⟨hS.step ((Below.refl _ wr).alloc (Nat.le_refl _) _), by rw [gone_nil]; exact MapK.made 3 wr ks, hS.mw.lt, World.ownsRow_nil _ _ _ _⟩
      have hT0 := Srt.start g
      obtain ⟨bn, hbn⟩ : ∃ b, wr.heap.size = b := ⟨_, rfl⟩
      rw [hbn] at hO0
      simp only [hbn]
      clear hS hbn
      generalize wr.alloc (.map #[] 0) = W1 at hO0 ⊢
      have q0 := hO0.s.g0
      obtain ⟨i0, hi0, hz0, hz1, hz2⟩ := info_parts (show (Tryz.prog.info? 2).map (fun i => (i.zero, i.size, i.bytes)) = some (some (.int .i64 0), 1, 8) by kernel_rfl)
      go_upto_region 10 with fail
      clear q0
      go_loopw [4, 9, 13, 32] (fun ov _ _ iv wr => ∃ (k : Nat) (out : List Int), k ≤ n1 ∧ iv = .int .i64 k ∧ Srt g out k ∧ So w wr bg bw bn (.slice a1 n1 c1) (.slice a2 n2 c2) ks (wtF g.edges out) (goneF out) ov k out) (fun _ _ _ iv _ => n1 - (intOf iv).toNat)
      case atStart => exact ⟨0, [], by omega, rfl, hT0, hO0⟩
      case round =>
        clear hO0 hT0
        obtain ⟨k, out, hk, rfl, hT, hO⟩ := hrel
        by_cases hlt : k < n1
        · have f0 : decide ((k : Int) < n1) = true := decide_eq_true (by omega)
          have f0' : decide (k < n1) = true := decide_eq_true hlt
          have hlt2 : (k : Int) < n1 := by omega
          have q0 := hO.s.g0
          go_upto_region 13 with fail
          clear q0
          obtain ⟨Wq, rfl⟩ : ∃ W, W = wr := ⟨wr, rfl⟩
          go_loopw [9, 37] (fun nv iv wr => ∃ j : Nat, j ≤ n1 ∧ iv = .int .i64 j ∧ nv = .int .i64 0 ∧ Below Wq.heap.size Wq wr) (fun _ iv _ => n1 - (intOf iv).toNat)
          case atStart => exact ⟨0, by omega, rfl, rfl, Below.refl _ _⟩
          case round =>
            obtain ⟨j, hj, rfl, rfl, hbq⟩ := hrel
            have hO1 := hO.step hbq
            by_cases hltj : j < n1
            · have k0 : decide ((j : Int) < n1) = true := decide_eq_true (by omega)
              have k0' : decide (j < n1) = true := decide_eq_true hltj
              have k0'' : (j : Int) < n1 := by omega
              have hjN : j < g.nodes.length := by rw [HN1.out]; exact hltj
              have hNr := h1.below ENd.kept (HBG.out.symm ▸ hO1.s.below)
              obtain ⟨b, o, l1, d1, l2, d2, rfl, -, hc, hcl, hcf, -, -⟩ := RNd.at hNr hjN
              have hmem : g.nodes[j].id ∈ ks := by rw [← HKS.out]; exact List.mem_map.2 ⟨_, List.getElem_mem hjN, rfl⟩
              obtain ⟨xi, hxi⟩ : ∃ xi, g.nodes[j].id = xi := ⟨_, rfl⟩
              obtain ⟨xl, hxl⟩ : ∃ xl, g.nodes[j].labels.length = xl := ⟨_, rfl⟩
              obtain ⟨xf, hxf⟩ : ∃ xf, g.nodes[j].fields.length = xf := ⟨_, rfl⟩
              rw [hxi] at hc hmem
              rw [hxl] at hcl
              rw [hxf] at hcf
              clear hxi hxl hxf hNr
              have hI := id_I64 (HKI.out xi hmem)
              have hba := (Below.refl _ wr).alloc (Nat.le_refl _) (.cells #[.int .i64 xi, .slice l1 xl d1, .slice l2 xf d2] 74)
              have hbqa := hbq.trans (hba.mono hbq.size)
              have y0 : (wr.alloc (.cells #[.int .i64 xi, .slice l1 xl d1, .slice l2 xf d2] 74)).cell? ⟨wr.heap.size, 0, none⟩ = some (.int .i64 xi) := by rw [World.cell?_alloc_mark]; rfl
              go_upto_region 15 with fail
              have hO2 := hO1.step hba
              clear hO1 hc hcl hcf hba hbq
              obtain ⟨bE, hbE⟩ : ∃ b, wr.heap.size = b := ⟨_, rfl⟩
              rw [hbE] at y0
              simp only [hbE]
              clear hbE
              generalize wr.alloc (.cells #[.int .i64 xi, .slice l1 xl d1, .slice l2 xf d2] 74) = W2 at y0 hO2 hbqa ⊢
              obtain ⟨A, hA⟩ : ∃ A, goneF out xi = A := ⟨_, rfl⟩
              obtain ⟨B, hB⟩ : ∃ B, wtF g.edges out xi = B := ⟨_, rfl⟩
              have e1 := look116 hO2.mn hI hA
              have e2 := look116 hO2.s.mw hI hB
              have HA := Lib.hid hA
              have HB := Lib.hid hB
              clear hA hB
              by_cases hA0 : A = 0
              · subst hA0
                by_cases hB0 : B = 0
                · subst hB0
                  have hT2 := hT.step (by rw [HKS.out]; exact hmem) HA.out HB.out
                  have hx1 : 1 ≤ xi := (HKI.out xi hmem).1
                  have m0 : decide (xi = 0) = false := decide_eq_false (by omega)
                  have m0' : (xi == 0) = false := by rw [beq_eq_false_iff_ne]; omega
                  obtain ⟨W3, hr3, hO3, hg3⟩ := hO2.putn hkl hmem hI (show I64 1 from ⟨by decide, by decide⟩)
                  rw [gone_snoc] at hO3
                  have hno := gone_zero HA.out
                  clear hO2 hbqa hO
                  go_upto_region 21 with fail
                  have hkI : (k : Int) ≤ 200 := by omega
                  have hbn3 : bn < W3.heap.size := hO3.mn.lt
                  have HT2 := Lib.hid hT2
                  have HNO := Lib.hid hno
                  clear hT hT2 hno hr3 hg3 e1 e2 hk h1
                  go_upto_region 22 with (at_builtin; refine wpList_append_lies _ rfl (.tmp 60) (.tmp 62) 27 rfl (bn + 1) 2 i0 (.int .i64 0) 1 8 Tryz.underlying27 hi0 hz0 hz1 hz2 rfl (by decide) _ k (out.map (Value.int .i64)) rfl (hO3.row.alloc _) ⟨_, 0, none⟩ 1 1 [.int .i64 xi] rfl rfl (new_cells (by simp) _ _) (by intro u hu; simp at hu; subst hu; rfl) (by decide) (by unfold maxLen; omega) (by omega) (by simp; omega) _ rfl ?_; intro gg cap w6 hown6 hgrow6 hat6 hlt6; have hgrow6 : World.grownBy _ w6 u4.ownBlock := hgrow6)
                  have hO6 := hO3.app ((Below.refl _ W3).alloc (Nat.le_refl _) _) hown6 hgrow6
                  clear hO3 hown6 hgrow6 hat6 hlt6
                  have r6 := h0.below (HBG.out.symm ▸ hO6.s.below)
                  have x0 := hO6.s.g0
                  have x1 := hO6.s.g1
                  go_upto_region 23 with (go_at_call 52; refine (around_any _ _ _ g r6 hw xi false).mono ?_; rintro e w7 ⟨vv, rfl, hrow7, hb7⟩; obtain ⟨la, lc, rfl⟩ := own_shapeG hrow7)
                  have hO7 := hO6.step hb7
                  have hlw : bw < w6.heap.size := hO6.s.mw.lt
                  have hendl := ends_len g.edges false xi g.edges.length
                  rw [List.take_length] at hendl
                  clear hO6 x0 x1 r6 hb7
                  obtain ⟨l, hl⟩ : ∃ l, ends g.edges false xi = l := ⟨_, rfl⟩
                  have HL := Lib.hid hl
                  rw [hl] at hrow7 hendl
                  simp only [hl]
                  clear hl
                  obtain ⟨m, hm⟩ : ∃ m, l.length = m := ⟨_, rfl⟩
                  have HM := Lib.hid hm
                  rw [hm] at hrow7 hendl
                  simp only [hm]
                  clear hm
                  have hmI : (m : Int) ≤ 400 := by have := HN2.out; omega
                  rw [wtJ_nil, ← List.take_zero (l := l)] at hO7
                  generalize hov : Value.slice (some ⟨gg, 0, none⟩) (k + 1) cap = ov2 at hO7
                  have HOV := Lib.hid hov
                  try simp only [hov]
                  clear hov
                  obtain ⟨B6, hB6⟩ : ∃ b, w6.heap.size = b := ⟨_, rfl⟩
                  rw [hB6] at hrow7 hlw
                  clear hB6
                  go_loopw [13, 68] (fun _ iv wr => ∃ j : Nat, j ≤ m ∧ iv = .int .i64 j ∧ wr.ownsRow B6 2 1 (.slice la m lc) m (l.map (Value.int .i64)) ∧ So w wr bg bw bn (.slice (some ⟨b, o, none⟩) n1 c1) (.slice a2 n2 c2) ks (wtJ g.edges out (l.take j)) (goneF (out ++ [xi])) ov2 (k + 1) (out ++ [xi])) (fun _ iv _ => m - (intOf iv).toNat)
                  case atStart => exact ⟨0, by omega, rfl, hrow7, hO7⟩
                  case round =>
                    clear hO7 hrow7
                    obtain ⟨j, hj, rfl, hrow, hO⟩ := hrel
                    by_cases hltj : j < m
                    · have k0 : decide ((j : Int) < m) = true := decide_eq_true (by omega)
                      have k0' : decide (j < m) = true := decide_eq_true hltj
                      have k0'' : (j : Int) < m := by omega
                      have hjl : j < l.length := by rw [HM.out]; exact hltj
                      obtain ⟨gb, cb, hEq, hgb, hgbl, hat, _⟩ := own_at hrow (by omega)
                      injection hEq with q1 _ q3
                      subst q1
                      subst q3
                      have zb : wr.cell? ⟨gb, j, none⟩ = some (.int .i64 l[j]) := by
                        have := hat j (.int .i64 l[j]) (by rw [List.getElem?_map, List.getElem?_eq_getElem hjl]; rfl)
                        rwa [Nat.zero_add] at this
                      have hT := wtJ_snoc (es := g.edges) (out := out) hjl
                      have hmem : l[j] ∈ ks := by
                        rw [← HKS.out]
                        have hz : ∀ z ∈ l, z ∈ idsOf g.nodes := fun z hz => (arcd_in hw (mem_ends (es := g.edges) (ag := false) (u := xi).1 (by rw [HL.out]; exact hz))).2
                        exact hz _ (List.getElem_mem hjl)
                      have hc1 : wtJ g.edges out (l.take j) l[j] ≤ 400 ∧ -400 ≤ wtJ g.edges out (l.take j) l[j] := by
                        have u1 := wt_le g.edges out l[j]
                        have u2 := List.count_le_length (a := l[j]) (l := l.take j)
                        rw [List.length_take] at u2
                        have u3 := HN2.out
                        unfold wtJ
                        omega
                      obtain ⟨y, hy⟩ : ∃ y, l[j] = y := ⟨_, rfl⟩
                      rw [hy] at zb hT hmem hc1
                      obtain ⟨A, hA⟩ : ∃ A, wtJ g.edges out (l.take j) y = A := ⟨_, rfl⟩
                      rw [hA] at hT hc1
                      obtain ⟨hc2, hc3⟩ := hc1
                      have hI := id_I64 (HKI.out y hmem)
                      have el := look116 hO.s.mw hI hA
                      obtain ⟨W4, hr4, hO4, hg4⟩ := hO.putw hkl hmem hI (show I64 (A - 1) from ⟨by omega, by omega⟩)
                      have hrow4 := own_kept hrow (fun b hb hl => hg4.block b hl (fun e => by injection e with e; omega))
                      rw [hT] at hO4
                      have HO4 := Lib.hid hO4
                      have HR4 := Lib.hid hrow4
                      clear hO hO4 hrow hrow4 hT hat hA hy hg4
                      go_wp2_with fail
                      go_round
                      case rel => exact ⟨j + 1, by omega, by go_num, HR4.out, HO4.out⟩
                      case measure => simp [intOf]; omega
                    · have hj3 : m = j := by omega
                      subst hj3
                      have k0 : decide ((m : Int) < m) = false := decide_eq_false (by omega)
                      have hO' := hO
                      rw [List.take_of_length_le (by rw [HM.out]; omega), ← HL.out, wtJ_done HNO.out] at hO'
                      have HO := Lib.hid hO'
                      clear hO hO' hrow
                      go_wp2_with fail
                      go_round
                      case rel => exact ⟨k + 1, out ++ [xi], by omega, by go_num, HT2.out, HO.out⟩
                      case measure => simp [intOf]; omega
                · have m1 : decide (B = 0) = false := decide_eq_false hB0
                  have m1' : (B == 0) = false := by rw [beq_eq_false_iff_ne]; exact hB0
                  clear hO2 hO
                  go_wp2_with fail
                  go_round
                  case rel => exact ⟨j + 1, by omega, by go_num, rfl, hbqa⟩
                  case measure => simp [intOf]; omega
              · have m1 : decide (A = 0) = false := decide_eq_false hA0
                have m1' : (A == 0) = false := by rw [beq_eq_false_iff_ne]; exact hA0
                clear hO2 hO
                go_wp2_with fail
                go_round
                case rel => exact ⟨j + 1, by omega, by go_num, rfl, hbqa⟩
                case measure => simp [intOf]; omega
            · have k0 : decide ((j : Int) < n1) = false := decide_eq_false (by omega)
              have k0' : ¬ (j : Int) < n1 := by omega
              have hbZ : Below w.heap.size w wr := HBG.out.symm ▸ hO1.s.below
              clear hO hO1
              go_wp2_with fail
              go_ret2
              exact ⟨_, _, rfl, (fun q => by cases q), hbZ⟩
        · have hk3 : k = n1 := by omega
          have f0 : decide ((k : Int) < n1) = false := decide_eq_false (by omega)
          have f0' : ¬ (k : Int) < n1 := by omega
          have hbZ : Below w.heap.size w wr := HBG.out.symm ▸ hO.s.below
          have hT2 : Srt g out g.nodes.length := by rw [HN1.out, ← hk3]; exact hT
          have HT2 := Lib.hid (hT2.all hw)
          clear hO hT hT2
          go_wp2_with fail
          go_ret2
          exact ⟨_, _, rfl, (fun _ => HT2.out), hbZ⟩
end Go.Proofs.YtllhimeffkefiaaGreatDoor
