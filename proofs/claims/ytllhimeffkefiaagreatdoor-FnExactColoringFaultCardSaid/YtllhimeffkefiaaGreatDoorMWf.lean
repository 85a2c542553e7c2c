/- Texts of one proof, joined in their order: each bears its own word of what it holds and on what condition. -/
import Derived.Test.YtllhimeffkefiaaGreatDoorMWe
set_option linter.unusedVariables false
set_option linter.unusedSimpArgs false
/- impl's walk through a graph by levels, for the visit of reachable. Condition: a right graph; visit keeps its own blocks. -/
set_option linter.unusedVariables false
set_option linter.unusedSimpArgs false
namespace Go.Proofs.YtllhimeffkefiaaGreatDoor
open Go.RowKit Go.Sort

theorem own_keptB {w w' : World} {base : Nat} {e : TypeId} {sz : Nat} {v : Value} {n : Nat} {xs : List Value} (h : w.ownsRow base e sz v n xs) (hk : ∀ q, v.ownBlock = some q → w'.heap[q]? = w.heap[q]?) : w'.ownsRow base e sz v n xs := by
  refine ⟨h.1, ?_⟩
  rcases h.2 with hn | ⟨g, cap, cur, he, hb, hgg, rest⟩
  · exact .inl hn
  · exact .inr ⟨g, cap, cur, he, hb, (hk g (by rw [he]; rfl)).trans hgg, rest⟩
theorem setg_fit {lv : Bool → Lit} {w : World} {b n : Nat} {R : Value → Option (DataW Unit × List MemPlace)} {D : DataW Unit} {S : Int → Bool} {ids : List Int} (h : SetG lv D S) (ho : w.ownsMap Tryz.prog 2 R b n D) (hs : ∀ x, S x = true → x ∈ ids) : w.ownsMap Tryz.prog 2 R b ids.length D := by
  obtain ⟨es0, e0, hp, _⟩ := ho.entries kmap2
  obtain ⟨es, clock, h1, h2, h3, h4⟩ := ho
  obtain ⟨l, e1, k2, k3, _⟩ := h
  have hl : l.length ≤ ids.length := by
    have e2 : es0 = l := by rw [e0] at e1; injection e1
    subst e2
    refine keys_le _ ids hp (fun p hp2 => ?_)
    obtain ⟨id, e⟩ := k2 p hp2
    refine ⟨id, hs id ((k3 id).symm.trans ?_), e⟩
    rw [e0]
    show List.any _ _ = true
    rw [List.any_eq_true]
    exact ⟨p, hp2, by rw [e]; exact WideAt.sameKey_self (keyLit _)⟩
  refine ⟨es, clock, h1, h2, ?_, h4⟩
  have : es.size = l.length := by
    rw [h4] at e1
    injection e1 with e1
    rw [← e1, length_sorted]
    simp
  omega
theorem notV {V V' : Nat → Prop} {n q : Nat} (h : ∀ q, V' q → V q ∨ n ≤ q) (hq : q < n) (hn : ¬ V q) : ¬ V' q := fun k => by
  rcases h q k with e | e
  · exact hn e
  · omega
theorem own_shape {w : World} {base : Nat} {e : TypeId} {sz : Nat} {v : Value} {n : Nat} {xs : List Value} (h : w.ownsRow base e sz v n xs) : ∃ a c, v = .slice a n c := by
  rcases h.2 with ⟨q, hn⟩ | ⟨g, cap, cur, q, _⟩
  · subst hn; exact ⟨_, _, q⟩
  · exact ⟨_, _, q⟩
/-- the row of the level, or of the next one: none of the blocks that others keep -/
def Apart (v : Value) (cg bs : Nat) (V : Nat → Prop) : Prop := ∀ q, v.ownBlock = some q → q ≠ cg ∧ q ≠ bs ∧ ¬ V q
def VisR (F : Nat) (ids : List Int) (Inv : VInv) (cb : Nat) : Prop := ∀ W V d u far, Inv W V d → u ∈ ids → far ≤ 200 → (∀ k, (u, k) ∉ d) → d.length ≤ 200 →
  Calls Tryz.prog F #[.int .i64 u, .int .i64 (far : Nat), .pointer (some ⟨cb, 0, none⟩)] W (fun e W' => e = .returned (.bool true) ∧ ∃ V', Inv W' V' (d ++ [(u, far)]) ∧ Kp W W' V ∧ ∀ q, V' q → V q ∨ W.heap.size ≤ q)
def LevR (g : Gr) (ag : Bool) (s : Int) (V0 : Nat → Prop) (Inv : VInv) (w : World) (e : Ending) (w' : World) : Prop := e = .returned (.tuple #[]) ∧ ∃ V done, Inv w' V done ∧ (∀ u k, (u, k) ∈ done ↔ Dst (Arcd g.edges ag) s k u) ∧ (done.map Prod.fst).Nodup ∧ (∀ p ∈ done, p.1 ∈ idsOf g.nodes) ∧ Kp w w' V0 ∧ ∀ q, V q → V0 q ∨ w.heap.size ≤ q
set_option maxHeartbeats 4000000 in
set_option maxRecDepth 100000 in
theorem levels_reach (w : World) (S : Nat → Prop) (v : Value) (g : Gr) (h : RGr w S v g) (hw : Gw g) (s : Int) (hs : s ∈ idsOf g.nodes) (ag : Bool) (cb : Nat) (V0 : Nat → Prop) (Inv : VInv)
    (hSV : ∀ b, S b → ¬ V0 b) (hI0 : Inv w V0 []) (hVl : ∀ W V d, Inv W V d → ∀ q, V q → q < W.heap.size) (hVk : ∀ W W' V d, Inv W V d → (∀ q, V q → W'.heap[q]? = W.heap[q]?) → Inv W' V d) (hVis : VisR 84 (idsOf g.nodes) Inv cb) :
    Calls Tryz.prog 62 #[v, .int .i64 s, .bool ag, .func (.func 84) #[] #[.pointer (some ⟨cb, 0, none⟩)]] w (LevR g ag s V0 Inv w) := by
  have h0 := h
  obtain ⟨v1, v2, rfl, h1, h2⟩ := h
  obtain ⟨a1, c1, rfl⟩ := h1.shape
  obtain ⟨a2, c2, rfl⟩ := h2.shape
  obtain ⟨n1, hn1⟩ : ∃ n, g.nodes.length = n := ⟨_, rfl⟩
  obtain ⟨n2, hn2⟩ : ∃ n, g.edges.length = n := ⟨_, rfl⟩
  have HIL : Hid ((idsOf g.nodes).length = n1) := Lib.hid (by unfold idsOf; rw [List.length_map, hn1])
  have hlen := hw.n
  rw [hn1] at hlen
  rw [hn1, hn2] at h0
  rw [hn1, hn2]
  clear h1 h2 hn1 hn2
  have hsI := id_I64 (hw.id s hs)
  have hI64 : ∀ u ∈ idsOf g.nodes, I64 u := fun u hu => id_I64 (hw.id u hu)
  have hbound : ∀ {k : Nat} {u : Int}, Dst (Arcd g.edges ag) s k u → k + 1 ≤ n1 := fun q => by
    have := q.bound hs (fun a b r => (arcd_in hw r).2)
    rwa [HIL.out] at this
  have hin' : ∀ {k : Nat} {u : Int}, Wlk (Arcd g.edges ag) s k u → u ∈ idsOf g.nodes := fun q => wlk_in hs (fun a b r => (arcd_in hw r).2) q
  have hll : ∀ {L : List Int}, L.Nodup → (∀ x ∈ L, x ∈ idsOf g.nodes) → L.length ≤ n1 := fun q r => by
    have := nodup_le _ _ q r
    rwa [HIL.out] at this
  have hmm := @run_makeMap Tryz.prog
  have e1 : (w.alloc (.cells #[.slice a1 n1 c1, .slice a2 n2 c2] 36)).heap.size = w.heap.size + 1 := by simp
  have x0 : ((w.alloc (.cells #[.slice a1 n1 c1, .slice a2 n2 c2] 36)).alloc (.map #[] 0)).cell? ⟨w.heap.size, 0, none⟩ = some (.slice a1 n1 c1) := cell_alloc (by rw [World.cell?_alloc_mark]; rfl) _
  have x1 : ((w.alloc (.cells #[.slice a1 n1 c1, .slice a2 n2 c2] 36)).alloc (.map #[] 0)).cell? ⟨w.heap.size, 1, none⟩ = some (.slice a2 n2 c2) := cell_alloc (by rw [World.cell?_alloc_mark]; rfl) _
  have hba : Below w.heap.size w ((w.alloc (.cells #[.slice a1 n1 c1, .slice a2 n2 c2] 36)).alloc (.map #[] 0)) := ((Below.refl _ w).alloc (Nat.le_refl _) _).alloc (by simp) _
  have hm0 : ((w.alloc (.cells #[.slice a1 n1 c1, .slice a2 n2 c2] 36)).alloc (.map #[] 0)).ownsMap Tryz.prog 2 (plainElem (H := Unit) Tryz.prog 3) (w.heap.size + 1) 0 (.map []) := by
    rw [← e1]; exact World.ownsMap_made _ _ _ _
  obtain ⟨w2, hr2, hown2, hg2⟩ := setj_store (SetG.none (lv := fun b => .int .i64 (if b then 1 else 0))) hm0 (by omega) hsI
  have hS2 := (SetG.none (lv := fun b => .int .i64 (if b then 1 else 0))).put s
  have hI1 : LvS w ((w.alloc (.cells #[.slice a1 n1 c1, .slice a2 n2 c2] 36)).alloc (.map #[] 0)) V0 V0 Inv w.heap.size (w.heap.size + 1) (.slice a1 n1 c1) (.slice a2 n2 c2) 0 (.map []) [] :=
    ⟨hVk _ _ _ _ hI0 (fun q hq => hba.block q (hVl _ _ _ hI0 q hq)), Kp.of_below hba _, fun q hq => .inl hq, x0, x1, hm0, fun q => by have := hVl _ _ _ hI0 _ q; omega, fun q => by have := hVl _ _ _ hI0 _ q; omega⟩
  have hL2 := hI1.store hVl hVk hg2 (by omega) (by omega) hown2
  have hs2 : w.heap.size + 2 ≤ w2.heap.size := by have := hg2.size; simp at this; omega
  go_enter Tryz.func62, Tryz.ntmps62
  go_upto_region 2 with fail
  clear x0 x1 hm0 hown2 hg2 hba hr2 e1 hI0 hI1
  obtain ⟨cg, hcg⟩ : ∃ b, w.heap.size = b := ⟨_, rfl⟩
  obtain ⟨bs, hbs⟩ : ∃ b, cg + 1 = b := ⟨_, rfl⟩
  simp only [hcg, hbs]
  rw [hcg, hbs] at hL2
  rw [hcg] at hs2
  have HC := Lib.hid hcg
  have hne : bs ≠ cg := by omega
  have hBs : cg ≤ bs := by omega
  have hsz0 : bs < w2.heap.size := by omega
  clear hcg hbs hs2
  have hL3 := hL2.below hVl hVk ((Below.refl _ w2).alloc (Nat.le_refl _) (.cells #[.int .i64 s] 2))
  have hnow : (w2.alloc (.cells #[.int .i64 s] 2)).ownsRow cg 2 1 (.slice (some ⟨w2.heap.size, 0, none⟩) 1 1) [s].length ([s].map (Value.int .i64)) := ⟨rfl, .inr ⟨w2.heap.size, 1, #[.int .i64 s], rfl, by omega, heap_alloc_new w2 _, by simp, by unfold maxLen; simp, rfl, rfl⟩⟩
  have hap : Apart (.slice (some ⟨w2.heap.size, 0, none⟩) 1 1) cg bs V0 := fun q e => by
    have e : w2.heap.size = q := Option.some.inj e
    subst e
    exact ⟨by omega, by omega, fun q => by have := hVl _ _ _ hL2.inv _ q; omega⟩
  have hseen : ∀ x, (decide (x = s) || (fun _ => false) x) = true ↔ Upt (Arcd g.edges ag) s 0 x := fun x => by rw [upt_zero]; simp
  have hD0 := Done.start (Arcd g.edges ag) s (idsOf g.nodes)
  have hL0 : ∀ u, u ∈ [s] ↔ Dst (Arcd g.edges ag) s 0 u := fun u => by rw [dst_zero]; simp
  clear hL2 hsz0
  go_upto_region 3 with fail
  go_wp2_with fail
  generalize w2.alloc (.cells #[.int .i64 s] 2) = W3 at hL3 hnow ⊢
  go_loopw [9, 10, 11, 13, 15] (fun nv fv _ _ _ wr => ∃ (far : Nat) (L : List Int) (m : Nat) (D : DataW Unit) (Sx : Int → Bool) (V : Nat → Prop) (done : List (Int × Nat)), fv = .int .i64 far ∧ wr.ownsRow cg 2 1 nv L.length (L.map (Value.int .i64)) ∧ Apart nv cg bs V ∧ LvS w wr V0 V Inv cg bs (.slice a1 n1 c1) (.slice a2 n2 c2) m D done ∧ SetJ D Sx ∧ (∀ u, u ∈ L ↔ Dst (Arcd g.edges ag) s far u) ∧ L.Nodup ∧ (∀ x, Sx x = true ↔ Upt (Arcd g.edges ag) s far x) ∧ Done (Arcd g.edges ag) s (idsOf g.nodes) far [] done ∧ far ≤ n1) (fun _ fv _ _ _ _ => n1 + 1 - (intOf fv).toNat)
  case atStart => exact ⟨0, [s], _, _, _, V0, [], rfl, hnow, hap, hL3, hS2, hL0, by simp, hseen, hD0, by omega⟩
  case round =>
    clear hnow hap hL3 hS2 hL0 hseen hD0
    obtain ⟨far, L, m, D, Sx, V, done, rfl, hnow, hap, hL, hS, hLd, hnd, hseen, hD, hfar⟩ := hrel
    obtain ⟨len, hlenL⟩ : ∃ n, L.length = n := ⟨_, rfl⟩
    have HLL := Lib.hid hlenL
    rw [hlenL] at hnow
    have hL200 : len ≤ n1 := by rw [← hlenL]; exact hll hnd (fun x hx => hin' ((hLd x).1 hx).1)
    clear hlenL
    by_cases hpos : 0 < len
    · have f0 : decide ((0 : Int) < len) = true := decide_eq_true (by omega)
      have f0' : decide (0 < len) = true := decide_eq_true hpos
      have f0'' : (0 : Int) < len := by omega
      have hw1 : IntKind.i64.wrap ((far : Int) + 1) = (far : Int) + 1 := wrap64_of _ (by omega) (by omega)
      have hlen2 : (len : Int) ≤ 200 := by omega
      have hsort := sort_row wr cg u9 L (by rw [HLL.out]; exact hnow) (by rw [HLL.out]; omega)
      obtain ⟨gn, cn, rfl, hgB, hgl, -, -⟩ := own_at hnow hpos
      obtain ⟨ap1, ap2, ap3⟩ := hap gn rfl
      go_upto_region 7 with (go_at_call 89; refine hsort.mono ?_; rintro e w3 ⟨rfl, L2, hperm, hown3, hg3⟩)
      have hl2 : L2.length = len := by rw [hperm.length_eq, HLL.out]
      have HL2 := Lib.hid hl2
      have hLd2 : ∀ u, u ∈ L2 ↔ Dst (Arcd g.edges ag) s far u := fun u => hperm.mem_iff.trans (hLd u)
      have hnd2 : L2.Nodup := hperm.nodup_iff.2 hnd
      have hL3 := hL.keep hVl hVk (Kp.of_grown hg3) (fun q t => by
        have : q = gn := Option.some.inj t
        subst this
        exact ⟨by rw [HC.out]; exact hgB, ap1, ap2, ap3⟩)
      have hcell : ∀ j (hj : j < L2.length), w3.cell? ⟨gn, j, none⟩ = some (.int .i64 L2[j]) := fun j hj => by
        obtain ⟨g', c', hv, _, _, hat, _⟩ := own_at hown3 (by omega)
        injection hv with hv1 hv2 hv3
        injection hv1 with hv1
        injection hv1 with hv1
        subst hv1
        have := hat j (.int .i64 L2[j]) (by rw [List.getElem?_map, List.getElem?_eq_getElem hj]; rfl)
        rwa [Nat.zero_add] at this
      have hN0 := NextL.start (R := Arcd g.edges ag) (s := s) (far := far) L2 hseen
      have hD2 : Done (Arcd g.edges ag) s (idsOf g.nodes) far (L2.take 0) done := by rw [List.take_zero]; exact hD
      have hfar1 : far + 1 ≤ n1 := hbound ((hLd2 L2[0]).1 (List.getElem_mem (by omega)))
      clear hnow hap hL hLd hnd hperm hown3 hg3 hseen hD hsort hl2 HLL L
      go_upto_region 8 with fail
      go_wp2_with fail
      go_loopw [11, 13, 15, 30] (fun xv _ _ iv w4 => ∃ (i : Nat) (nx : List Int) (m : Nat) (D : DataW Unit) (Sx : Int → Bool) (V : Nat → Prop) (done : List (Int × Nat)), i ≤ len ∧ iv = .int .i64 i ∧ w4.ownsRow cg 2 1 xv nx.length (nx.map (Value.int .i64)) ∧ Apart xv cg bs V ∧ xv.ownBlock ≠ some gn ∧ ¬ V gn ∧ LvS w w4 V0 V Inv cg bs (.slice a1 n1 c1) (.slice a2 n2 c2) m D done ∧ SetJ D Sx ∧ NextL (Arcd g.edges ag) s far L2 i [] 0 nx Sx ∧ Done (Arcd g.edges ag) s (idsOf g.nodes) far (L2.take i) done ∧ ∀ j (hj : j < L2.length), w4.cell? ⟨gn, j, none⟩ = some (.int .i64 L2[j])) (fun _ _ _ iv _ => len - (intOf iv).toNat)
      case atStart => exact ⟨0, [], m, D, Sx, V, done, by omega, rfl, World.ownsRow_nil _ _ _ _, (fun q e => by cases e), (by intro e; cases e), ap3, hL3, hS, hN0, hD2, hcell⟩
      case round =>
        clear hL3 hS hN0 hD2 hcell ap3 f0 f0' f0''
        obtain ⟨i, nx, m, D, Sx, V, done, hin, rfl, hown, hap, hxg, hVg, hL, hS, hN, hD, hcell⟩ := hrel
        by_cases hlt : i < len
        · have g0 : decide ((i : Int) < len) = true := decide_eq_true (by omega)
          have g0' : decide (i < len) = true := decide_eq_true hlt
          have g0'' : (i : Int) < len := by omega
          have hiL : i < L2.length := by rw [HL2.out]; exact hlt
          have hui : L2[i] ∈ idsOf g.nodes := hin' ((hLd2 _).1 (List.getElem_mem hiL)).1
          have hnew := hD.new hiL hLd2 hnd2
          have hdl := hD.len
          rw [HIL.out] at hdl
          have hDn := hD.step hiL hLd2 hnd2 hui
          have z1 := hcell i hiL
          have hvis := hVis wr V done L2[i] far hL.inv hui (by omega) hnew (by omega)
          have HSH : Hid (∀ (row nx : List Int) (S : Int → Bool), (∀ x, x ∈ row ↔ Arcd g.edges ag L2[i] x) → NextL (Arcd g.edges ag) s far L2 i row row.length nx S → NextL (Arcd g.edges ag) s far L2 (i + 1) [] 0 nx S) := Lib.hid (fun row nx S hr q => q.shut hiL hr)
          obtain ⟨u, hu⟩ : ∃ u, L2[i] = u := ⟨_, rfl⟩
          rw [hu] at z1 hvis hDn hui HSH
          have HCELL := Lib.hid hcell
          clear hu hnew hdl hD hcell
          have hcgl := lt_of_cell hL.c0
          have hgnl := lt_of_cell z1
          go_upto_region 12 with (go_at_call 84; refine hvis.mono ?_; rintro e w5 ⟨rfl, V5, hI5, hk5, hV5⟩)
          have hL5 := hL.visit hcgl hI5 hk5 hV5
          have hown5 := own_keptB hown (fun q e => hk5.block q (hown.lt q e).2 (hap q e).2.2)
          have hap5 : Apart u11 cg bs V5 := fun q e => ⟨(hap q e).1, (hap q e).2.1, notV hV5 (hown.lt q e).2 (hap q e).2.2⟩
          have hVg5 := notV hV5 hgnl hVg
          have hcell5 : ∀ j (hj : j < L2.length), w5.cell? ⟨gn, j, none⟩ = some (.int .i64 L2[j]) := fun j hj => cell_kept (fun hl => hk5.block gn hl hVg) (HCELL.out j hj)
          have hgn5 : gn < w5.heap.size := Nat.lt_of_lt_of_le hgnl hk5.size
          clear hL hown hap hVg HCELL hvis hI5 hk5 hV5 hcgl hgnl z1
          have y0 := hL5.c0
          have y1 := hL5.c1
          have har := around_any w5 S _ g (h0.kept (fun b hb hl => hL5.kp.block b hl (hSV b hb))) hw u ag
          have hem : ∀ x, x ∈ ends g.edges ag u ↔ Arcd g.edges ag u x := fun x => mem_ends
          have hel : (ends g.edges ag u).length ≤ g.edges.length := by have := ends_len g.edges ag u g.edges.length; rwa [List.take_length] at this
          have hel2 := Nat.le_trans hel hw.e
          unfold EndsR at har
          generalize ends g.edges ag u = E at har hem hel2
          obtain ⟨le, hle⟩ : ∃ n, E.length = n := ⟨_, rfl⟩
          rw [hle] at har hel2
          have HLE := Lib.hid hle
          have hle2 : (le : Int) ≤ 400 := by omega
          clear hel hle
          obtain ⟨B5, hB5⟩ : ∃ b, w5.heap.size = b := ⟨_, rfl⟩
          rw [hB5] at hgn5
          have hVB : ∀ q, V5 q → q < B5 := fun q hq => by rw [← hB5]; exact hVl _ _ _ hL5.inv q hq
          have hbsB : bs < B5 := by rw [← hB5]; exact hL5.seen.lt
          have hx5 : ∀ q, u11.ownBlock = some q → q < B5 := fun q e => by rw [← hB5]; exact (hown5.lt q e).2
          rw [hB5] at har
          have HB5 := Lib.hid hB5
          clear hB5
          go_wp2_with (go_at_call 52; refine har.mono ?_; rintro e w6 ⟨vv, rfl, hE, hb6⟩; obtain ⟨ae, ce, rfl⟩ := own_shape hE)
          have hb6' : Below w5.heap.size w5 w6 := by rw [HB5.out]; exact hb6
          have hL6 := hL5.below hVl hVk hb6'
          have hown6 := own_keptB hown5 (fun q e => hb6.block q (hx5 q e))
          have hcell6 : ∀ j (hj : j < L2.length), w6.cell? ⟨gn, j, none⟩ = some (.int .i64 L2[j]) := fun j hj => cell_kept (fun hl => hb6'.block gn hl) (hcell5 j hj)
          have hxe : ∀ q, (Value.slice ae le ce).ownBlock = some q → u11.ownBlock ≠ some q := fun q e e2 => by have := (hE.lt q e).1; have := hx5 q e2; omega
          have hN6 := hN.open E
          have hgBx : B5 ≤ w6.heap.size := by rw [← HB5.out]; exact hb6.size
          clear hL5 hown5 hcell5 y0 y1 har hb6 hb6' hx5 hN
          go_loopw [11, 15, 44] (fun xv _ jv w7 => ∃ (j : Nat) (nx : List Int) (m : Nat) (D : DataW Unit) (Sx : Int → Bool), j ≤ le ∧ jv = .int .i64 j ∧ w7.ownsRow cg 2 1 xv nx.length (nx.map (Value.int .i64)) ∧ Apart xv cg bs V5 ∧ xv.ownBlock ≠ some gn ∧ (∀ q, (Value.slice ae le ce).ownBlock = some q → xv.ownBlock ≠ some q) ∧ LvS w w7 V0 V5 Inv cg bs (.slice a1 n1 c1) (.slice a2 n2 c2) m D (done ++ [(u, far)]) ∧ SetJ D Sx ∧ NextL (Arcd g.edges ag) s far L2 i E j nx Sx ∧ (∀ j (hj : j < L2.length), w7.cell? ⟨gn, j, none⟩ = some (.int .i64 L2[j])) ∧ w7.ownsRow B5 2 1 (.slice ae le ce) le (E.map (Value.int .i64))) (fun _ _ jv _ => le - (intOf jv).toNat)
          case atStart => exact ⟨0, nx, m, D, Sx, by omega, rfl, hown6, hap5, hxg, hxe, hL6, hS, hN6, hcell6, hE⟩
          case round =>
            clear hown6 hap5 hxg hxe hL6 hS hN6 hcell6 hE g0 g0' g0''
            obtain ⟨j, nx, m, D, Sx, hjl, rfl, hown, hap, hxg, hxe, hL, hS, hN, hcell, hE⟩ := hrel
            by_cases hltj : j < le
            · have k0 : decide ((j : Int) < le) = true := decide_eq_true (by omega)
              have k0' : decide (j < le) = true := decide_eq_true hltj
              have k0'' : (j : Int) < le := by omega
              have hjE : j < E.length := by rw [HLE.out]; exact hltj
              obtain ⟨ge, ce', hEq, hge, _, hat, _⟩ := own_at hE (by omega)
              injection hEq with e1 _ e3
              subst e1
              subst e3
              have z2 : wr.cell? ⟨ge, j, none⟩ = some (.int .i64 E[j]) := by
                have := hat j (.int .i64 E[j]) (by rw [List.getElem?_map, List.getElem?_eq_getElem hjE]; rfl)
                rwa [Nat.zero_add] at this
              have hsub : ∀ y, Sx y = true → y ∈ idsOf g.nodes := fun y hy => by
                rcases (hN.seen y).1 hy with ⟨k, _, q⟩ | q
                · exact hin' q
                · rcases ((hN.mem y).1 q).1 with ⟨v', _, q⟩ | q
                  · exact (arcd_in hw q).2
                  · exact (arcd_in hw ((hem y).1 (List.mem_of_mem_take q))).2
              have hxin : E[j] ∈ idsOf g.nodes := (arcd_in hw ((hem _).1 (List.getElem_mem hjE))).2
              have hskip := fun q => hN.skip hjE q
              have hpush := fun q => hN.push hjE q
              obtain ⟨x, hx⟩ : ∃ x, E[j] = x := ⟨_, rfl⟩
              rw [hx] at z2 hxin hskip hpush
              have hxI := hI64 x hxin
              have hlook := setj_look hS hL.seen hxI
              clear hat hx
              cases hsx : Sx x with
              | true =>
                have hN2 := hskip hsx
                rw [hsx, if_pos rfl] at hlook
                clear hskip hpush hsx
                go_wp2_with fail
                go_round
                case rel => exact ⟨j + 1, nx, m, D, Sx, by omega, by go_num, hown, hap, hxg, hxe, hL, hS, hN2, hcell, hE⟩
                case measure => first | (simp [intOf]; done) | (simp [intOf]; omega)
              | false =>
                have hN2 := hpush hsx
                rw [hsx, if_neg (by decide)] at hlook
                have hfit := setg_fit hS hL.seen hsub
                rw [HIL.out] at hfit
                obtain ⟨w8, hr8, hown8, hg8⟩ := setj_store hS hfit (by omega) hxI
                have hS8 := hS.put x
                have hL8 := hL.store hVl hVk hg8 (by rw [HC.out]; exact hBs) hne hown8
                have hx8 := own_keptB hown (fun q e => hg8.block q (hown.lt q e).2 (fun e2 => (hap q e).2.1 (Option.some.inj e2)))
                have hcell8 : ∀ j (hj : j < L2.length), w8.cell? ⟨gn, j, none⟩ = some (.int .i64 L2[j]) := fun j hj => cell_kept (fun hl => hg8.block gn hl (fun e2 => ap2 (Option.some.inj e2))) (hcell j hj)
                have hE8 := own_keptB hE (fun q e => hg8.block q (hE.lt q e).2 (fun e2 => by have := Option.some.inj e2; have := (hE.lt q e).1; omega))
                have hnl : nx.length ≤ n1 := hll hN.nd (fun y hy => hsub y ((hN.seen y).2 (.inr hy)))
                have hsz8 : B5 ≤ w8.heap.size := by have := (hE8.lt ge rfl); omega
                have hgnl : gn < w8.heap.size := by omega
                have hgel : ge < w8.heap.size := (hE8.lt ge rfl).2
                have hcgB : cg ≤ w8.heap.size := by omega
                clear hskip hpush hsx hsub hfit hown8 hg8 hL hown hcell hE hN
                obtain ⟨i0, hi0, hz0, hz1, hz2⟩ := info_parts (show (Tryz.prog.info? 2).map (fun i => (i.zero, i.size, i.bytes)) = some (some (.int .i64 0), 1, 8) by kernel_rfl)
                go_wp2_with (at_builtin; refine wpList_append_lies _ rfl (.tmp 54) (.tmp 56) 27 rfl cg 2 i0 (.int .i64 0) 1 8 Tryz.underlying27 hi0 hz0 hz1 hz2 rfl (by decide) _ nx.length (nx.map (Value.int .i64)) rfl (hx8.alloc _) ⟨_, 0, none⟩ 1 1 [.int .i64 x] rfl rfl (new_cells (by simp) _ _) (by intro u hu; simp at hu; subst hu; rfl) (by decide) (by unfold maxLen; omega) (by omega) (by simp; omega) _ rfl ?_; intro gg cap w9 hown9 hgrow9 hat9 hlt9; have hgrow9 : World.grownBy _ w9 u11.ownBlock := hgrow9)
                have hk9 : Kp w8 w9 (fun q => some q = u11.ownBlock) := (Kp.of_below ((Below.refl _ w8).alloc (Nat.le_refl _) _) _).trans (Kp.of_grown hgrow9)
                have hL9 := hL8.keep hVl hVk hk9 (fun q t => ⟨by rw [HC.out]; exact (hx8.lt q t.symm).1, hap q t.symm⟩)
                have hgg : u11.ownBlock = some gg ∨ w8.heap.size ≤ gg := hat9.imp_right (fun e => by rw [e]; simp)
                have hap9 : Apart (.slice (some ⟨gg, 0, none⟩) (nx.length + 1) cap) cg bs V5 := fun q e => by
                  have e : gg = q := Option.some.inj e
                  subst e
                  rcases hgg with e | e
                  · exact hap _ e
                  · exact ⟨by omega, by omega, fun k => by have := hVB _ k; omega⟩
                have hxg9 : (Value.slice (some ⟨gg, 0, none⟩) (nx.length + 1) cap).ownBlock ≠ some gn := fun e => by
                  have e : gg = gn := Option.some.inj e
                  subst e
                  rcases hgg with e | e
                  · exact hxg e
                  · omega
                have hxe9 : ∀ q, (Value.slice (some ⟨ge, 0, none⟩) le ce).ownBlock = some q → (Value.slice (some ⟨gg, 0, none⟩) (nx.length + 1) cap).ownBlock ≠ some q := fun q e e2 => by
                  have e : ge = q := Option.some.inj e
                  have e2 : gg = q := Option.some.inj e2
                  subst e2
                  subst e
                  rcases hgg with e | e
                  · exact hxe _ rfl e
                  · omega
                have hcell9 : ∀ j (hj : j < L2.length), w9.cell? ⟨gn, j, none⟩ = some (.int .i64 L2[j]) := fun j hj => cell_kept (fun hl => hk9.block gn hl (fun e => hxg e.symm)) (hcell8 j hj)
                have hE9 := own_keptB hE8 (fun q e => hk9.block q (hE8.lt q e).2 (fun e2 => hxe q e e2.symm))
                have hown9' := own_snoc (x := x) hown9 rfl
                go_round
                case rel => exact ⟨j + 1, nx ++ [x], _, _, _, by omega, by go_num, hown9', hap9, hxg9, hxe9, hL9, hS8, hN2, hcell9, hE9⟩
                case measure => first | (simp [intOf]; done) | (simp [intOf]; omega)
            · have hj3 : j = le := by omega
              subst hj3
              have k0 : decide ((j : Int) < j) = false := decide_eq_false (by omega)
              have hN2 := HSH.out E nx Sx hem (by rw [HLE.out]; exact hN)
              clear hxe hE hN HSH
              go_wp2_with fail
              go_round
              case rel => exact ⟨i + 1, nx, m, D, Sx, V5, _, by omega, by go_num, hown, hap, hxg, hVg5, hL, hS, hN2, hDn, hcell⟩
              case measure => first | (simp [intOf]; done) | (simp [intOf]; omega)
        · have hi3 : i = len := by omega
          subst hi3
          have g0 : decide ((i : Int) < i) = false := decide_eq_false (by omega)
          obtain ⟨t1, t2, t3⟩ := NextL.turn (by rw [HL2.out]; exact hN) hLd2
          have hDt : Done (Arcd g.edges ag) s (idsOf g.nodes) (far + 1) [] done := Done.turn (by rw [← HL2.out, List.take_length] at hD; exact hD) hLd2
          clear hN hD hcell hLd2
          go_wp2_with fail
          go_round
          case rel => exact ⟨far + 1, nx, m, D, Sx, V, done, by first | rfl | go_num, hown, hap, hL, hS, t1, t2, t3, hDt, hfar1⟩
          case measure => first | (simp [intOf]; done) | (simp [intOf]; omega)
    · have hl0 : len = 0 := by omega
      subst hl0
      have hLnil : L = [] := List.length_eq_zero_iff.1 HLL.out
      have hno : ∀ u, ¬ Dst (Arcd g.edges ag) s far u := fun u q => by have := (hLd u).2 q; rw [hLnil] at this; simp at this
      have hall := hD.all hno
      obtain ⟨a0, c0, rfl⟩ : ∃ a c, u9 = .slice a 0 c := by
        rcases hnow.2 with ⟨q, _⟩ | ⟨g, cap, cur, q, _⟩
        · exact ⟨_, _, q⟩
        · exact ⟨_, _, q⟩
      go_wp2_with fail
      go_end0
      exact ⟨rfl, V, done, hL.inv, hall, hD.nd, hD.sub, hL.kp, fun q hq => by rw [HC.out]; have := hL.sub q hq; rw [HC.out] at this; exact this⟩
end Go.Proofs.YtllhimeffkefiaaGreatDoor
