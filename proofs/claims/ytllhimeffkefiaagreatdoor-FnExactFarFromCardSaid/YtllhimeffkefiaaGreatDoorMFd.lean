/- Texts of one proof, joined in their order: each bears its own word of what it holds and on what condition. -/
import Derived.Test.YtllhimeffkefiaaGreatDoorMFa
import Derived.Lib.Overlaps
import Derived.Lib.AppendZerosOnto
import Derived.Shelf.Spec.SlicesInsert
set_option linter.unusedVariables false
set_option linter.unusedSimpArgs false
/- slices.Insert of one entry into a row of the call's own. Condition: at most 1000 elements; the entry lies in another block. -/
set_option linter.unusedVariables false
set_option linter.unusedSimpArgs false
namespace Go.Proofs.YtllhimeffkefiaaGreatDoor
open Go.RowKit Go.Sort

theorem run_copy_rowK {P : Program} (w : World) (dT sT ty elem : TypeId) (g o dLen dCap : Nat) (a : Addr) (sLen sCap : Nat) (cur : Array Value) (t : TypeId) (cs : List Value) (k n : Nat)
    (hu : P.underlying dT = some (.slice elem)) (hs : (P.info? elem).map (·.size) = some k)
    (hg : w.heap[g]? = some (.cells cur t (0, 0))) (hn : n = Nat.min sLen dLen) (hl : cs.length = n * k)
    (hsrc : ∀ j v, cs[j]? = some v → w.cell? (a.add j) = some v) (hfit : o + cs.length ≤ cur.size) (h1 : ∀ v ∈ cs, v.oneCell' = true) :
    (Builtin.copy_ #[dT, sT] ty #[.slice (some ⟨g, o, none⟩) dLen dCap, .slice (some a) sLen sCap]).run P w =
      .ok (goInt n) (w.setRow g (cur.toList.take o ++ cs ++ cur.toList.drop (o + cs.length)).toArray) := by
  have hl2 := run_loadCells_list (P := P) w a cs hsrc
  have hst := run_storeCells_at P g o t cs 0 cur w hg (by simpa using hfit) h1
  rw [hl] at hl2
  cases hq : P.info? elem with
  | none => simp [hq] at hs
  | some i =>
    have hi : i.size = k := by simpa [hq] using hs
    simp [Builtin.copy_, run_underlying hu, Builtin.lenOf, Builtin.firstCells, sizeOf, typeInfo, hq, hi, ← hn, hl2, hst]
theorem ins_room {c0 xs ab : List Value} {k N m : Nat} (hx : c0.take N = xs) (hN : N + m ≤ c0.length) (hk : k ≤ N) (hab : ab.length = m) (c1 : List Value) (h1 : c1 = c0.take (k + m) ++ xs.drop k ++ c0.drop (k + m + (xs.drop k).length)) :
    c1.length = c0.length ∧ c1.take k ++ ab ++ c1.drop (k + ab.length) = xs.take k ++ ab ++ xs.drop k ++ c0.drop (N + m) := by
  have hxl : xs.length = N := by rw [← hx, List.length_take]; omega
  have hd : (xs.drop k).length = N - k := by rw [List.length_drop, hxl]
  have ht : (c0.take (k + m)).length = k + m := by rw [List.length_take]; omega
  have e : k + m + (N - k) = N + m := by omega
  rw [hd, e] at h1
  subst h1
  constructor
  · rw [List.length_append, List.length_append, ht, hd, List.length_drop]; omega
  · generalize c0.drop (N + m) = R
    generalize xs.drop k = D
    have hx2 : c0.take k = xs.take k := by rw [← hx, List.take_take, Nat.min_eq_left hk]
    have hT : (c0.take (k + m)).take k = xs.take k := by rw [List.take_take, Nat.min_eq_left (by omega), hx2]
    generalize c0.take (k + m) = T at ht hT
    have a1 : (T ++ D ++ R).take k = xs.take k := by rw [List.append_assoc, List.take_append_of_le_length (by omega), hT]
    have a2 : (T ++ D ++ R).drop (k + m) = D ++ R := by rw [List.append_assoc, List.drop_append_of_le_length (by omega), List.drop_of_length_le (by omega), List.nil_append]
    rw [hab, a1, a2]
    simp [List.append_assoc]
theorem ins_new {r0 xs ab : List Value} {k N m : Nat} (hx : r0.take k = xs.take k) (hxl : xs.length = N) (hN : N + m ≤ r0.length) (hk : k ≤ N) (hab : ab.length = m) (r1 : List Value) (h1 : r1 = r0.take k ++ ab ++ r0.drop (k + ab.length)) :
    r1.length = r0.length ∧ r1.take (k + m) ++ xs.drop k ++ r1.drop (k + m + (xs.drop k).length) = xs.take k ++ ab ++ xs.drop k ++ r0.drop (N + m) := by
  have hd : (xs.drop k).length = N - k := by rw [List.length_drop, hxl]
  have ht : (r0.take k).length = k := by rw [List.length_take]; omega
  have htx : (xs.take k).length = k := by rw [List.length_take]; omega
  have e : k + m + (N - k) = N + m := by omega
  rw [hab] at h1
  rw [hd, e]
  subst h1
  constructor
  · rw [List.length_append, List.length_append, ht, hab, List.length_drop]; omega
  · have hA : (r0.take k ++ ab).length = k + m := by rw [List.length_append, ht, hab]
    have hR : (r0.drop (k + m)).drop (N - k) = r0.drop (N + m) := by rw [List.drop_drop, show k + m + (N - k) = N + m by omega]
    generalize r0.drop (k + m) = R at hR
    rw [hx] at hA ⊢
    generalize xs.take k ++ ab = T at hA
    have a1 : (T ++ R).take (k + m) = T := by rw [List.take_append_of_le_length (by omega), List.take_of_length_le (by omega)]
    have a2 : (T ++ R).drop (N + m) = r0.drop (N + m) := by
      rw [← hR, List.drop_append, List.drop_of_length_le (by omega), List.nil_append]
      congr 1
      omega
    rw [a1, a2]
/-- where the row lies afterwards -/
def InsR (base : Nat) (v : Value) (n i : Nat) (xs : List Value) (a b : Value) (w : World) (e : Ending) (w' : World) : Prop := ∃ g cap, e = .returned (.slice (some ⟨g, 0, none⟩) (n + 1) cap) ∧ w'.ownsRow base 107 2 (.slice (some ⟨g, 0, none⟩) (n + 1) cap) (n + 1) (xs.take (i * 2) ++ [a, b] ++ xs.drop (i * 2)) ∧ w.grownBy w' v.ownBlock ∧ (v.ownBlock = some g ∨ w.heap.size ≤ g)
set_option maxHeartbeats 4000000 in
set_option maxRecDepth 100000 in
theorem insert_own (w : World) (base : Nat) (v : Value) (n i : Nat) (xs : List Value) (hown : w.ownsRow base 107 2 v n xs) (hi : i ≤ n) (hn : n ≤ 1000) (h1x : ∀ u ∈ xs, u.oneCell' = true)
    (vb : Nat) (a b : Value) (hvb : w.heap[vb]? = some (.cells #[a, b] 107 (0, 0))) (hne : v.ownBlock ≠ some vb) (h1a : a.oneCell' = true) (h1b : b.oneCell' = true) (hB : base ≤ w.heap.size) :
    Calls Tryz.prog 90 #[v, .int .i64 i, .slice (some ⟨vb, 0, none⟩) 1 1] w (InsR base v n i xs a b w) := by
  obtain ⟨i0, hi0, hz0, hz1, hz2⟩ := info_parts (show (Tryz.prog.info? 107).map (fun i => (i.zero, i.size, i.bytes)) = some (some (.agg #[.int .i64 0, .int .i64 0]), 2, 16) by kernel_rfl)
  have hsz : (Tryz.prog.info? 107).map (·.size) = some 2 := by rw [hi0]; simp [hz1]
  have hxl := hown.1
  have hvc : ∀ j u, [a, b][j]? = some u → w.cell? ((⟨vb, 0, none⟩ : Addr).add j) = some u := fun j u hj => by
    have := World.news_of_block hvb j u hj
    exact this
  have h1ab : ∀ u ∈ [a, b], u.oneCell' = true := fun u hu => by
    rcases List.mem_cons.1 hu with rfl | hu
    · exact h1a
    · rw [List.mem_singleton] at hu; subst hu; exact h1b
  by_cases hend : i = n
  · subst hend
    have hT : xs.take (i * 2) ++ [a, b] ++ xs.drop (i * 2) = xs ++ [a, b] := by rw [List.take_of_length_le (by omega), List.drop_of_length_le (by omega), List.append_nil]
    have HT := Lib.hid hT
    have hiI : (i : Int) ≤ 1000 := by omega
    rcases hown.2 with ⟨rfl, hn0⟩ | ⟨g, cap, cur, rfl, hbg, hgg, hnc, hcm, hcs, hct⟩
    · subst hn0
      clear hT hi hne
      go_enter Tryz.func90, Tryz.ntmps90
      go_wp2_with (at_builtin; refine wpList_append_lies _ rfl (.tmp 23) (.tmp 24) 54 rfl base 107 i0 (.agg #[.int .i64 0, .int .i64 0]) 2 16 Tryz.underlying54 hi0 hz0 hz1 hz2 rfl (by decide) _ 0 xs rfl hown ⟨vb, 0, none⟩ 1 1 [a, b] rfl rfl hvc h1ab (by decide) (by unfold maxLen; omega) (by omega) hB _ rfl ?_; intro g cap w9 hown9 hgrow9 hat9 hlt9)
      go_ret
      exact ⟨g, cap, rfl, by rw [HT.out]; exact hown9, hgrow9, hat9.imp_right (fun e => by omega)⟩
    · have hm' : cap ≤ 9223372036854775807 := by unfold maxLen at hcm; omega
      have hci : (i : Int) ≤ cap := by omega
      have hcI : (cap : Int) ≤ 9223372036854775807 := by omega
      clear hT hi hne hct hcs hgg
      go_enter Tryz.func90, Tryz.ntmps90
      go_wp2_with (at_builtin; refine wpList_append_lies _ rfl (.tmp 23) (.tmp 24) 54 rfl base 107 i0 (.agg #[.int .i64 0, .int .i64 0]) 2 16 Tryz.underlying54 hi0 hz0 hz1 hz2 rfl (by decide) _ i xs rfl hown ⟨vb, 0, none⟩ 1 1 [a, b] rfl rfl hvc h1ab (by decide) (by unfold maxLen; omega) (by omega) hB _ rfl ?_; intro g9 cap9 w9 hown9 hgrow9 hat9 hlt9)
      all_goals
        go_ret
        exact ⟨g9, cap9, rfl, by rw [HT.out]; exact hown9, hgrow9, hat9.imp_right (fun e => by omega)⟩
  · rcases hown.2 with ⟨rfl, hn0⟩ | ⟨g, cap, cur, rfl, hbg, hgg, hnc, hcm, hcs, hct⟩
    · omega
    have hin : i < n := by omega
    have hm' : cap ≤ 9223372036854775807 := by unfold maxLen at hcm; omega
    have hvg : vb ≠ g := fun e => hne (by rw [e]; rfl)
    have hgl : g < w.heap.size := (Array.getElem?_eq_some_iff.1 hgg).1
    have hvl : vb < w.heap.size := (Array.getElem?_eq_some_iff.1 hvb).1
    have hsx : ∀ j u, (xs.drop (i * 2))[j]? = some u → w.cell? ((⟨g, i * 2, none⟩ : Addr).add j) = some u := fun j u hj => by
      rw [List.getElem?_drop] at hj
      have hjl := (List.getElem?_eq_some_iff.1 hj).1
      rw [Addr.add_lit]
      have e : cur.toList[i * 2 + j]? = some u := by rw [← hct, List.getElem?_take] at hj; split at hj; exact hj; cases hj
      have := World.news_of_block hgg (i * 2 + j) u e
      rwa [Addr.add_lit, Nat.zero_add] at this
    have hdl : (xs.drop (i * 2)).length = (n - i) * 2 := by rw [List.length_drop, hxl]; omega
    have h1d : ∀ u ∈ xs.drop (i * 2), u.oneCell' = true := fun u hu => h1x u (List.mem_of_mem_drop hu)
    have hiI : (i : Int) ≤ n := by omega
    have hnI : (n : Int) ≤ 1000 := by omega
    have hciI : (i : Int) ≤ cap := by omega
    have hb1 : (0 : Int) ≤ (i : Int) + 1 := by omega
    have htn : ((i : Int) + 1).toNat = i + 1 := by omega
    have hb3 : (i : Int) ≤ (n : Int) + 1 := by omega
    have hb4 : (i : Int) + 1 ≤ (n : Int) + 1 := by omega
    have hb5 : i + 1 ≤ n + 1 := by omega
    have hb6 : i ≤ n + 1 := by omega
    have hnin : ((i : Int) == (n : Int)) = false := by rw [beq_eq_false_iff_ne]; omega
    have hnin' : ¬ (i : Int) = (n : Int) := by omega
    have hci : ¬ cap = i := by omega
    have hw1 : IntKind.i64.wrap ((i : Int) + 1) = (i : Int) + 1 := wrap64_of _ (by omega) (by omega)
    have hw2 : IntKind.i64.wrap ((n : Int) + 1) = (n : Int) + 1 := wrap64_of _ (by omega) (by omega)
    by_cases hroom : n + 1 ≤ cap
    · -- in place
      have hcI : (n : Int) + 1 ≤ cap := by omega
      have hci1 : ¬ cap = i + 1 := by omega
      have hlen0 : cur.toList.length = cap * 2 := by rw [Array.length_toList]; exact hcs
      obtain ⟨c1, hc1⟩ : ∃ c1, c1 = cur.toList.take (i * 2 + 2) ++ xs.drop (i * 2) ++ cur.toList.drop (i * 2 + 2 + (xs.drop (i * 2)).length) := ⟨_, rfl⟩
      obtain ⟨hl1, hc2⟩ := ins_room (ab := [a, b]) (m := 2) hct (by omega) (by omega) rfl c1 hc1
      have hcp1 : ∀ ty dc sc, (Builtin.copy_ #[54, 54] ty #[.slice (some ⟨g, (i + 1) * 2, none⟩) (n + 1 - (i + 1)) dc, .slice (some ⟨g, i * 2, none⟩) (n + 1 - i) sc]).run Tryz.prog w.drew = .ok (goInt ((n - i : Nat) : Int)) (w.drew.setRow g c1.toArray) := fun ty dc sc => by
        have := run_copy_rowK (P := Tryz.prog) w.drew 54 54 ty 107 g ((i + 1) * 2) (n + 1 - (i + 1)) dc ⟨g, i * 2, none⟩ (n + 1 - i) sc cur 107 (xs.drop (i * 2)) 2 (n - i) Tryz.underlying54 hsz hgg (by simp only [Nat.min_def]; split <;> omega) hdl hsx (by rw [hdl]; omega) h1d
        rw [this, hc1, show (i + 1) * 2 = i * 2 + 2 by omega]
      obtain ⟨W1, hW1⟩ : ∃ W1, W1 = w.drew.setRow g c1.toArray := ⟨_, rfl⟩
      rw [← hW1] at hcp1
      have hW1g : W1.heap[g]? = some (.cells c1.toArray 107 (0, 0)) := by rw [hW1]; exact setRow_heap w.drew g cur _ _ _ hgg
      have hW1v : W1.heap[vb]? = some (.cells #[a, b] 107 (0, 0)) := by rw [hW1, setRow_other _ _ _ _ hvg]; exact hvb
      have HW1 := Lib.hid hW1
      obtain ⟨c2, hc2e⟩ : ∃ c2 : Array Value, c2 = (xs.take (i * 2) ++ [a, b] ++ xs.drop (i * 2) ++ cur.toList.drop (n * 2 + 2)).toArray := ⟨_, rfl⟩
      have hcp2 : ∀ (W : World), W.heap = W1.heap → ∀ ty dc, (Builtin.copy_ #[54, 54] ty #[.slice (some ⟨g, i * 2, none⟩) (n + 1 - i) dc, .slice (some ⟨vb, 0, none⟩) 1 1]).run Tryz.prog W = .ok (goInt ((1 : Nat) : Int)) (W.setRow g c2) := fun W hWh ty dc => by
        have := run_copy_rowK (P := Tryz.prog) W 54 54 ty 107 g (i * 2) (n + 1 - i) dc ⟨vb, 0, none⟩ 1 1 c1.toArray 107 [a, b] 2 1 Tryz.underlying54 hsz (by rw [hWh]; exact hW1g) (by simp only [Nat.min_def]; split <;> omega) rfl (fun j u hj => World.news_of_block (by rw [hWh]; exact hW1v) j u hj) (by simp; rw [hl1, hlen0]; omega) h1ab
        rw [this, hc2e]
        simp only [List.toList_toArray]
        rw [hc2]
      have hov : ∀ lb cb, (callFunc 110 #[.slice (some ⟨vb, 0, none⟩) 1 1, .slice (some ⟨g, (i + 1) * 2, none⟩) lb cb]).run Tryz.prog w = .ok (.value (.bool false)) w := fun lb cb => by
        rw [run_callFunc_extern Tryz.func110 (by kernel_rfl) (by kernel_rfl) (by kernel_rfl) (e := Extern.SlicesOverlaps.overlaps #[54, 54] #[4]) (by kernel_rfl),
          Lib.run_overlaps_apart w 54 4 107 Tryz.underlying54 2 (fun w => by simp [sizeOf, typeInfo, hi0, hz1]) ⟨vb, 0, none⟩ ⟨g, (i + 1) * 2, none⟩ 1 1 lb cb hvg 107 107 2 cur.size (by simp [World.shape?, hvb]) (by simp [World.shape?, hgg]) (by omega) (by simp [World.frozen?, hvb]) (by simp [World.frozen?, hvb])]
        rfl
      have hlT : (xs.take (i * 2) ++ [a, b] ++ xs.drop (i * 2)).length = (n + 1) * 2 := by rw [List.length_append, List.length_append, List.length_take, hdl]; simp; omega
      have HOWN : Hid (∀ W : World, W.heap = W1.heap → (W.setRow g c2).ownsRow base 107 2 (.slice (some ⟨g, 0, none⟩) (n + 1) cap) (n + 1) (xs.take (i * 2) ++ [a, b] ++ xs.drop (i * 2))) := Lib.hid fun W hWh => by
        refine ⟨hlT, .inr ⟨g, cap, _, rfl, hbg, setRow_heap W g c1.toArray _ _ _ (by rw [hWh]; exact hW1g), by omega, hcm, ?_, ?_⟩⟩
        · rw [hc2e, List.size_toArray, List.length_append, hlT, List.length_drop, hlen0]; omega
        · rw [hc2e]
          simp only [List.toList_toArray]
          rw [List.take_append_of_le_length (by omega), List.take_of_length_le (by omega)]
      have HGR : Hid (∀ W : World, W.heap = W1.heap → W.os = w.os → W.tape = w.tape → W.output = w.output → w.grownBy (W.setRow g c2) (some g)) := Lib.hid fun W hWh h1 h2 h3 => by
        refine ⟨h1, h2, h3, ?_, fun q hq hqn => ?_⟩
        · have : (W.setRow g c2).heap.size = W.heap.size := by simp [World.setRow]
          rw [this, hWh, hW1]
          simp [World.setRow]
        · have hqg : q ≠ g := fun e => hqn (by rw [e])
          rw [setRow_other _ _ _ _ hqg, hWh, hW1, setRow_other _ _ _ _ hqg]
          rfl
      clear hown hct hcs hl1 hc2 hsx hdl h1d h1x hgg hvb hvc h1ab hne hlen0 hsz hW1g hW1v hxl hc1 hW1 hc2e hlT
      go_enter Tryz.func90, Tryz.ntmps90
      go_wp2_with (simp only [hov])
      go_region_law (refine step_copy_runI rfl _ _ 54 54 rfl _ _ (by simp [Act.eval, Act.put]; rfl) (by simp [Act.eval, Act.put]; rfl) (hcp1 _ _ _) ?_)
      go_wp2_with (at_builtin; refine wpList_copy_runI _ rfl _ _ 54 54 rfl _ _ rfl rfl (hcp2 _ rfl _ _) ?_)
      go_ret
      exact ⟨g, cap, rfl, HOWN.out _ rfl, HGR.out _ rfl (by rw [HW1.out]; rfl) (by rw [HW1.out]; rfl) (by rw [HW1.out]; rfl), .inl rfl⟩
    · -- a new row
      have hcn : cap = n := by omega
      have hcI : (cap : Int) < (n : Int) + 1 := by omega
      obtain ⟨G, hG⟩ : ∃ G, G = grownCap w (n + 1) cap 107 := ⟨_, rfl⟩
      have hGn : n + 1 ≤ G := by rw [hG]; exact grownCap_ge w _ _ _
      have hGm : G ≤ maxLen := by rw [hG]; exact grownCap_le_maxLen w (n + 1) cap _ (by unfold maxLen; omega)
      have hG63 : G ≤ 9223372036854775807 := by unfold maxLen at hGm; omega
      obtain ⟨Z, hZ⟩ : ∃ Z : Array Value, Z = (Value.agg #[.int .i64 0, .int .i64 0]).cells := ⟨_, rfl⟩
      have hZs : Z.size = 2 := by rw [hZ]; rfl
      have hzc : ∀ k, (Builtin.zeroCells Z k).size = k * 2 := fun k => by simp [Builtin.zeroCells, hZs]
      obtain ⟨R0, hR0⟩ : ∃ R0 : Array Value, R0 = (xs.take (i * 2)).toArray ++ Builtin.zeroCells Z (n + 1 - i) ++ Builtin.zeroCells Z (G - (n + 1)) := ⟨_, rfl⟩
      have htl : (xs.take (i * 2)).length = i * 2 := by rw [List.length_take, hxl]; omega
      have hR0l : R0.toList.length = G * 2 := by
        rw [Array.length_toList, hR0, Array.size_append, Array.size_append, hzc, hzc, List.size_toArray, htl]; omega
      have hR0t : R0.toList.take (i * 2) = xs.take (i * 2) := by
        rw [hR0]
        simp only [Array.toList_append, List.toList_toArray, List.append_assoc]
        rw [List.take_append_of_le_length (by omega), List.take_of_length_le (by omega)]
      have hold : (Builtin.firstCells i0.size i (.slice (some ⟨g, 0, none⟩) i cap)).run Tryz.prog w.drew = .ok (xs.take (i * 2)).toArray w.drew := by
        rw [hz1]
        exact run_firstCells_some w.drew 2 i ⟨g, 0, none⟩ i cap (xs.take (i * 2)) htl (fun j u hj => by
          rw [Addr.add_lit]
          rw [List.getElem?_take] at hj
          split at hj
          · have e : cur.toList[j]? = some u := by rw [← hct, List.getElem?_take] at hj; split at hj; exact hj; cases hj
            have := World.news_of_block hgg j u e
            rw [Addr.add_lit, Nat.zero_add] at this
            rw [Nat.zero_add]
            exact this
          · cases hj)
      have hkk : (n : Int) + 1 - (i : Int) = ((n + 1 - i : Nat) : Int) := by omega
      have hik : i + (n + 1 - i) = n + 1 := by omega
      have hrz : ∀ ty, (Builtin.append_ #[54, 3] ty #[.slice (some ⟨g, 0, none⟩) i cap, .int .i64 ((n : Int) + 1 - (i : Int))]).run Tryz.prog w = .ok (.slice (some ⟨w.heap.size, 0, none⟩) (n + 1) G) (w.drew.alloc (.cells R0 107)) := fun ty => by
        have h := Lib.run_append_grow_zeros w 54 3 ty 107 i0 _ .i64 .i64 Tryz.underlying54 Tryz.underlying3 hi0 hz0 (some ⟨g, 0, none⟩) i cap (xs.take (i * 2)) hold (n + 1 - i) (by omega) (by omega) (by omega) (by omega) (by rw [hz2]; omega) (by rw [hz2, hik]; exact growslice_fits (by omega) (by omega))
        rw [hik, ← hG, ← hZ, ← hR0] at h
        rw [hkk]
        exact h
      obtain ⟨W1, hW1⟩ : ∃ W1, W1 = w.drew.alloc (.cells R0 107) := ⟨_, rfl⟩
      rw [← hW1] at hrz
      have HW1 := Lib.hid hW1
      have hsz1 : W1.heap.size = w.heap.size + 1 := by rw [hW1]; simp
      have hN0 : W1.heap[w.heap.size]? = some (.cells R0 107 (0, 0)) := by rw [hW1]; exact heap_alloc_new w.drew _
      have hold1 : ∀ q, q < w.heap.size → W1.heap[q]? = w.heap[q]? := fun q hq => by
        rw [hW1]
        exact (Below.refl _ w.drew).alloc (Nat.le_refl _) (.cells R0 107) |>.block q hq
      obtain ⟨r1, hr1⟩ : ∃ r1, r1 = R0.toList.take (i * 2) ++ [a, b] ++ R0.toList.drop (i * 2 + ([a, b] : List Value).length) := ⟨_, rfl⟩
      obtain ⟨hl1, hc2⟩ := ins_new (m := 2) hR0t hxl (by omega) (by omega) rfl r1 hr1
      obtain ⟨c1, hc1⟩ : ∃ c1 : Array Value, c1 = r1.toArray := ⟨_, rfl⟩
      have hcpA : ∀ (W : World), W.heap = W1.heap → ∀ ty dc, (Builtin.copy_ #[54, 54] ty #[.slice (some ⟨w.heap.size, i * 2, none⟩) (n + 1 - i) dc, .slice (some ⟨vb, 0, none⟩) 1 1]).run Tryz.prog W = .ok (goInt ((1 : Nat) : Int)) (W.setRow w.heap.size c1) := fun W hWh ty dc => by
        have := run_copy_rowK (P := Tryz.prog) W 54 54 ty 107 w.heap.size (i * 2) (n + 1 - i) dc ⟨vb, 0, none⟩ 1 1 R0 107 [a, b] 2 1 Tryz.underlying54 hsz (by rw [hWh]; exact hN0) (by simp only [Nat.min_def]; split <;> omega) rfl (fun j u hj => World.news_of_block (by rw [hWh, hold1 vb hvl]; exact hvb) j u hj) (by rw [← Array.length_toList, hR0l]; simp; omega) h1ab
        rw [this, hc1, hr1]
      obtain ⟨c2, hc2e⟩ : ∃ c2 : Array Value, c2 = (xs.take (i * 2) ++ [a, b] ++ xs.drop (i * 2) ++ R0.toList.drop (n * 2 + 2)).toArray := ⟨_, rfl⟩
      have hne2 : g ≠ w.heap.size := by omega
      have hcpB : ∀ (W W' : World), W.heap = W1.heap → W'.heap = (W.setRow w.heap.size c1).heap → ∀ ty dc sc, (Builtin.copy_ #[54, 54] ty #[.slice (some ⟨w.heap.size, (i + 1) * 2, none⟩) (n + 1 - (i + 1)) dc, .slice (some ⟨g, i * 2, none⟩) (n - i) sc]).run Tryz.prog W' = .ok (goInt ((n - i : Nat) : Int)) (W'.setRow w.heap.size c2) := fun W W' hWh hWh' ty dc sc => by
        have := run_copy_rowK (P := Tryz.prog) W' 54 54 ty 107 w.heap.size ((i + 1) * 2) (n + 1 - (i + 1)) dc ⟨g, i * 2, none⟩ (n - i) sc c1 107 (xs.drop (i * 2)) 2 (n - i) Tryz.underlying54 hsz (by rw [hWh']; exact setRow_heap W _ R0 _ _ _ (by rw [hWh]; exact hN0)) (by simp only [Nat.min_def]; split <;> omega) hdl (fun j u hj => by
          rw [World.cell?_of_block (w := w) (a := (⟨g, i * 2, none⟩ : Addr).add j) (by
            have e : ((⟨g, i * 2, none⟩ : Addr).add j).block = g := by rw [Addr.add_lit]
            rw [e, hWh', setRow_other _ _ _ _ hne2, hWh]
            exact hold1 g hgl)]
          exact hsx j u hj) (by rw [hc1, List.size_toArray, hl1, hR0l, hdl]; omega) h1d
        rw [this, hc1, hc2e]
        simp only [List.toList_toArray]
        rw [show (i + 1) * 2 = i * 2 + 2 by omega, hc2]
      have hlT : (xs.take (i * 2) ++ [a, b] ++ xs.drop (i * 2)).length = (n + 1) * 2 := by rw [List.length_append, List.length_append, List.length_take, hdl]; simp; omega
      have HOWN : Hid (∀ W W' : World, W.heap = W1.heap → W'.heap = (W.setRow w.heap.size c1).heap → (W'.setRow w.heap.size c2).ownsRow base 107 2 (.slice (some ⟨w.heap.size, 0, none⟩) (n + 1) G) (n + 1) (xs.take (i * 2) ++ [a, b] ++ xs.drop (i * 2))) := Lib.hid fun W W' hWh hWh' => by
        refine ⟨hlT, .inr ⟨w.heap.size, G, _, rfl, hB, setRow_heap W' _ c1 _ _ _ (by rw [hWh']; exact setRow_heap W _ R0 _ _ _ (by rw [hWh]; exact hN0)), hGn, hGm, ?_, ?_⟩⟩
        · rw [hc2e, List.size_toArray, List.length_append, hlT, List.length_drop, hR0l]; omega
        · rw [hc2e]
          simp only [List.toList_toArray]
          rw [List.take_append_of_le_length (by omega), List.take_of_length_le (by omega)]
      have HGR : Hid (∀ W W' : World, W.heap = W1.heap → W'.heap = (W.setRow w.heap.size c1).heap → W'.os = w.os → W'.tape = w.tape → W'.output = w.output → w.grownBy (W'.setRow w.heap.size c2) (some g)) := Lib.hid fun W W' hWh hWh' h1 h2 h3 => by
        refine ⟨h1, h2, h3, ?_, fun q hq hqn => ?_⟩
        · have : (W'.setRow w.heap.size c2).heap.size = W'.heap.size := by simp [World.setRow]
          rw [this, hWh']
          have : (W.setRow w.heap.size c1).heap.size = W.heap.size := by simp [World.setRow]
          rw [this, hWh, hsz1]
          omega
        · have hqg : q ≠ w.heap.size := by omega
          rw [setRow_other _ _ _ _ hqg, hWh', setRow_other _ _ _ _ hqg, hWh]
          exact hold1 q hq
      have hGi : ¬ G = i := by omega
      have hGi1 : ¬ G = i + 1 := by omega
      have hGI : (G : Int) ≤ 9223372036854775807 := by omega
      have hGIn : (n : Int) + 1 ≤ G := by omega
      clear hown hct hcs hl1 hc2 hsx hdl h1d h1x hgg hvb hvc h1ab hne hsz hN0 hold1 hxl hc1 hW1 hc2e hlT hr1 hR0l hR0t htl hR0 hold hkk hik hZ hZs hzc hG hsz1 hcn
      go_enter Tryz.func90, Tryz.ntmps90
      go_wp2_with (first
        | (at_builtin; refine Lib.wpList_append_run _ rfl _ _ _ _ rfl _ _ rfl rfl _ _ (hrz _) ?_)
        | (at_builtin; refine wpList_copy_runI _ rfl _ _ 54 54 rfl _ _ rfl rfl (hcpA _ rfl _ _) ?_))
      go_region_law (refine step_copy_runI rfl _ _ 54 54 rfl _ _ (by simp [Act.eval, Act.put]; rfl) (by simp [Act.eval, Act.put]; rfl) (hcpB W1 (W1.setRow w.heap.size c1).drew rfl rfl _ _ _) ?_)
      go_wp2
      go_ret
      exact ⟨w.heap.size, G, rfl, HOWN.out W1 (W1.setRow w.heap.size c1).drew rfl rfl, HGR.out W1 (W1.setRow w.heap.size c1).drew rfl rfl (by rw [HW1.out]; rfl) (by rw [HW1.out]; rfl) (by rw [HW1.out]; rfl), .inr (Nat.le_refl _)⟩
end Go.Proofs.YtllhimeffkefiaaGreatDoor
/- impl's insertBy at entries by node. Condition: the row is the call's own and rises; the node is new. -/
set_option linter.unusedVariables false
set_option linter.unusedSimpArgs false
namespace Go.Proofs.YtllhimeffkefiaaGreatDoor
open Go.RowKit Go.Sort

set_option maxRecDepth 100000 in
theorem byNode_any (w : World) (a b : Int) : Calls Tryz.prog 65 #[.agg #[.int .i64 a, .int .i64 b]] w (IntB a w) := by
  have hba := (Below.refl _ w).alloc (Nat.le_refl _) (.cells #[.int .i64 a, .int .i64 b] 107)
  have x0 : (w.alloc (.cells #[.int .i64 a, .int .i64 b] 107)).cell? ⟨w.heap.size, 0, none⟩ = some (.int .i64 a) := by rw [World.cell?_alloc_mark]; rfl
  go_enter Tryz.func65, Tryz.ntmps65
  go_wp2
  go_ret
  exact ⟨rfl, hba⟩
theorem cP_take : ∀ (xs : List Pt) (k : Nat), (xs.flatMap cP).take (k * 2) = (xs.take k).flatMap cP
  | [], k => by simp
  | x :: xs, 0 => by simp
  | x :: xs, k + 1 => by
    rw [List.flatMap_cons, List.take_succ_cons, List.flatMap_cons, ← cP_take xs k, List.take_append, show (cP x).length = 2 from rfl, List.take_of_length_le (by simp [cP]; omega), show (k + 1) * 2 - 2 = k * 2 by omega]
theorem cP_drop : ∀ (xs : List Pt) (k : Nat), (xs.flatMap cP).drop (k * 2) = (xs.drop k).flatMap cP
  | [], k => by simp
  | x :: xs, 0 => by simp
  | x :: xs, k + 1 => by
    rw [List.flatMap_cons, List.drop_succ_cons, ← cP_drop xs k, List.drop_append, show (cP x).length = 2 from rfl, List.drop_of_length_le (by simp [cP]; omega), show (k + 1) * 2 - 2 = k * 2 by omega, List.nil_append]
theorem cP_one : ∀ (xs : List Pt), ∀ u ∈ xs.flatMap cP, u.oneCell' = true := fun xs u hu => by
  obtain ⟨x, _, hx⟩ := List.mem_flatMap.1 hu
  simp [cP] at hx
  rcases hx with rfl | rfl <;> rfl
/-- the row with the new entry -/
def InbR (base : Nat) (v : Value) (xs : List Pt) (x : Pt) (w : World) (e : Ending) (w' : World) : Prop := ∃ v' xs', e = .returned v' ∧ w'.ownsRow base 107 2 v' xs'.length (xs'.flatMap cP) ∧ Ris xs' ∧ (∀ p, p ∈ xs' ↔ p ∈ xs ∨ p = x) ∧ w.grownBy w' v.ownBlock ∧ ∀ q, v'.ownBlock = some q → v.ownBlock = some q ∨ w.heap.size ≤ q
theorem ins_call (w : World) (base : Nat) (v : Value) (xs : List Pt) (n : Nat) (hxn : xs.length = n) (hown : w.ownsRow base 107 2 v n (xs.flatMap cP)) (hB : base ≤ w.heap.size) (hl : n ≤ 400) (a b : Int) (k : Nat) (hk : k ≤ n) (W : World) (hb : Below w.heap.size w W) :
    Calls Tryz.prog 90 #[v, .int .i64 k, .slice (some ⟨W.heap.size, 0, none⟩) 1 1] (W.alloc (.cells #[.int .i64 a, .int .i64 b] 107)) (InsR base v n k (xs.flatMap cP) (.int .i64 a) (.int .i64 b) (W.alloc (.cells #[.int .i64 a, .int .i64 b] 107))) := by
  have h1 := (own_kept hown (fun q _ hl => hb.block q hl)).alloc (.cells #[.int .i64 a, .int .i64 b] 107)
  exact insert_own _ base v n k _ h1 hk (by omega) (cP_one xs) W.heap.size _ _ (heap_alloc_new W _) (fun e => by have := (hown.lt _ e).2; have := hb.size; omega) rfl rfl (by have := hb.size; simp; omega)
theorem ins_done {w W w9 : World} {base : Nat} {v : Value} {xs : List Pt} {n k : Nat} {a b : Int} (hxn : xs.length = n) (hk : k ≤ n) (hR : Ris xs) (hn : ∀ p ∈ xs, p.node ≠ a) (h1 : ∀ (j : Nat) (hj : j < xs.length), j < k → xs[j].node < a) (h2 : ∀ (hj : k < xs.length), ¬ xs[k].node < a)
    (hb : Below w.heap.size w W) {e : Ending} (h : InsR base v n k (xs.flatMap cP) (.int .i64 a) (.int .i64 b) (W.alloc (.cells #[.int .i64 a, .int .i64 b] 107)) e w9) : ∃ v', e = .returned v' ∧ InbR base v xs ⟨a, b⟩ w (.returned v') w9 := by
  obtain ⟨g, cap, rfl, hown, hg, hat⟩ := h
  obtain ⟨r1, r2⟩ := ris_insert (x := ⟨a, b⟩) hR hn (by omega) h1 h2
  have hb2 := hb.alloc hb.size (.cells #[.int .i64 a, .int .i64 b] 107)
  have hl : (xs.take k ++ (⟨a, b⟩ : Pt) :: xs.drop k).length = n + 1 := by rw [List.length_append, List.length_cons, List.length_take, List.length_drop]; omega
  refine ⟨_, rfl, _, _, rfl, ?_, r1, r2, ⟨hg.os.trans hb2.os, hg.tape.trans hb2.tape, hg.output.trans hb2.output, Nat.le_trans hb2.size hg.size, fun q hq hne => (hg.block q (Nat.lt_of_lt_of_le hq hb2.size) hne).trans (hb2.block q hq)⟩, fun q hq => ?_⟩
  · rw [hl, List.flatMap_append, List.flatMap_cons, ← cP_take, ← cP_drop]
    simpa [cP] using hown
  · have hq : g = q := Option.some.inj hq
    subst hq
    exact hat.imp_right (fun e => Nat.le_trans hb2.size e)
set_option maxHeartbeats 4000000 in
set_option maxRecDepth 100000 in
theorem insertBy_any (w : World) (base : Nat) (v : Value) (xs : List Pt) (hown : w.ownsRow base 107 2 v xs.length (xs.flatMap cP)) (hB : base ≤ w.heap.size) (hR : Ris xs) (hl : xs.length ≤ 400) (a b : Int) (hn : ∀ p ∈ xs, p.node ≠ a) :
    Calls Tryz.prog 64 #[v, .agg #[.int .i64 a, .int .i64 b], .func (.func 65) #[] #[]] w (InbR base v xs ⟨a, b⟩ w) := by
  obtain ⟨n, hne⟩ : ∃ n, xs.length = n := ⟨_, rfl⟩
  have HN := Lib.hid hne
  have hshape : ∃ a0 c0, v = .slice a0 n c0 := by
    rcases hown.2 with ⟨q, h0⟩ | ⟨g, cap, cur, q, _⟩
    · rw [hne] at h0; subst h0; exact ⟨_, _, q⟩
    · rw [hne] at q; exact ⟨_, _, q⟩
  rw [hne] at hown
  obtain ⟨a0, c0, rfl⟩ := hshape
  have hnI : (n : Int) ≤ 400 := by omega
  have hba := (Below.refl _ w).alloc (Nat.le_refl _) (.cells #[.int .i64 a, .int .i64 b] 107)
  have x0 : (w.alloc (.cells #[.int .i64 a, .int .i64 b] 107)).cell? ⟨w.heap.size, 0, none⟩ = some (.int .i64 a) := by rw [World.cell?_alloc_mark]; rfl
  have x1 : (w.alloc (.cells #[.int .i64 a, .int .i64 b] 107)).cell? ⟨w.heap.size, 1, none⟩ = some (.int .i64 b) := by rw [World.cell?_alloc_mark]; rfl
  clear hne
  go_enter Tryz.func64, Tryz.ntmps64
  go_upto_region 2 with fail
  generalize w.alloc (.cells #[.int .i64 a, .int .i64 b] 107) = W0 at hba x0 x1 ⊢
  go_loopw [7] (fun iv wr => ∃ k : Nat, k ≤ n ∧ iv = .int .i64 k ∧ Below W0.heap.size W0 wr ∧ ∀ (j : Nat) (hj : j < xs.length), j < k → xs[j].node < a) (fun iv _ => n - (intOf iv).toNat)
  case atStart => exact ⟨0, by omega, by first | rfl | go_num, Below.refl _ _, fun j _ h => by omega⟩
  case round =>
    obtain ⟨k, hk, rfl, hb, hlt⟩ := hrel
    have hbw := hba.trans (hb.mono hba.size)
    have y0 := cell_kept (fun hl => hb.block _ hl) x0
    have y1 := cell_kept (fun hl => hb.block _ hl) x1
    by_cases hkn : k < n
    · have f0 : decide ((k : Int) < n) = true := decide_eq_true (by omega)
      have f0' : decide (k < n) = true := decide_eq_true hkn
      have f0'' : (k : Int) < n := by omega
      have hkx : k < xs.length := by rw [HN.out]; exact hkn
      have hownr := own_kept hown (fun b _ hl => hbw.block b hl)
      obtain ⟨g, cap, hEq, hbg, hgl, hat, -⟩ := own_at hownr (by omega)
      injection hEq with e1 _ e3
      subst e1
      subst e3
      obtain ⟨c1, c2⟩ := cP_get xs k xs[k] (List.getElem?_eq_getElem hkx)
      have z0 := hat _ _ c1
      have z1 := hat _ _ c2
      rw [Nat.zero_add] at z0 z1
      have hstep : ∀ (j : Nat) (hj : j < xs.length), xs[k].node < a → j < k + 1 → xs[j].node < a := fun j hj q hjk => by
        by_cases e : j = k
        · subst e; exact q
        · exact hlt j hj (by omega)
      have hstop : ¬ xs[k].node < a → ∀ (hj : k < xs.length), ¬ xs[k].node < a := fun q _ => q
      obtain ⟨p, hp⟩ : ∃ p, xs[k].node = p := ⟨_, rfl⟩
      obtain ⟨q, hq⟩ : ∃ q, xs[k].num = q := ⟨_, rfl⟩
      rw [hp] at z0 hstep hstop
      rw [hq] at z1
      have HST := Lib.hid hstep
      have HSP := Lib.hid hstop
      have HLT := Lib.hid hlt
      clear hat c1 c2 hp hq hstep hlt hstop
      by_cases hpa : p < a
      · have m0 : decide (p < a) = true := decide_eq_true hpa
        go_upto_region 2 with fail
        refine region_ext (by kernel_rfl) (by kernel_rfl) ?_
        have t0 := Ext.cell z0
        have t1 := Ext.cell z1
        have t2 := Ext.cell y0
        have t3 := Ext.cell y1
        repeat (go_big_quiet_step ((go_at_call 65; rename_i u; exact (byNode_any u.w _ _).mono fun e w' h => ⟨h.1, ⟨w', u.below.trans (h.2.mono u.below.size)⟩, rfl⟩)))
        refine wpQuiet_nil ?_
        intro w2 hb2
        clear t0 t1 t2 t3
        go_wp2_with fail
        go_round
        case rel => exact ⟨k + 1, by omega, by first | rfl | go_num, hb.trans (hb2.mono hb.size), fun j hj hjk => HST.out j hj hpa hjk⟩
        case measure => first | (simp [intOf]; done) | (simp [intOf]; omega)
      · have m0 : decide (p < a) = false := decide_eq_false hpa
        go_upto_region 2 with fail
        refine region_ext (by kernel_rfl) (by kernel_rfl) ?_
        have t0 := Ext.cell z0
        have t1 := Ext.cell z1
        have t2 := Ext.cell y0
        have t3 := Ext.cell y1
        repeat (go_big_quiet_step ((go_at_call 65; rename_i u; exact (byNode_any u.w _ _).mono fun e w' h => ⟨h.1, ⟨w', u.below.trans (h.2.mono u.below.size)⟩, rfl⟩)))
        refine wpQuiet_nil ?_
        intro w2 hb2
        clear t0 t1 t2 t3
        have hbZ := hbw.trans (hb2.mono hbw.size)
        have y0 := cell_kept (fun hl => hb2.block _ hl) y0
        have y1 := cell_kept (fun hl => hb2.block _ hl) y1
        have hcall := ins_call w base _ xs n HN.out hown hB (by omega) a b k hk _ hbZ
        have hdone := fun (v : Value) (e : Ending) (w9 : World) q => ins_done (base := base) (v := v) (b := b) (e := e) (w9 := w9) HN.out hk hR hn HLT.out (HSP.out hpa) hbZ q
        have HD := Lib.hid hdone
        clear hdone
        go_upto_region 4 with fail
        go_wp2_with (go_at_call 90; refine hcall.mono ?_; intro e w9 hq; obtain ⟨v', rfl, hI⟩ := HD.out _ _ _ hq)
        go_ret
        exact hI
    · have hk3 : n = k := by omega
      subst hk3
      have f0 : decide ((n : Int) < n) = false := decide_eq_false (by omega)
      go_upto_region 2 with fail
      refine region_ext (by kernel_rfl) (by kernel_rfl) ?_
      have t2 := Ext.cell y0
      have t3 := Ext.cell y1
      repeat (go_big_quiet_step (fail))
      refine wpQuiet_nil ?_
      intro w2 hb2
      clear t2 t3
      have hbZ := hbw.trans (hb2.mono hbw.size)
      have y0 := cell_kept (fun hl => hb2.block _ hl) y0
      have y1 := cell_kept (fun hl => hb2.block _ hl) y1
      have hcall := ins_call w base _ xs n HN.out hown hB (by omega) a b n (Nat.le_refl _) _ hbZ
      have hdone := fun (v : Value) (e : Ending) (w9 : World) q => ins_done (base := base) (v := v) (b := b) (e := e) (w9 := w9) HN.out (Nat.le_refl _) hR hn hlt (fun hj => absurd hj (by rw [HN.out]; omega)) hbZ q
      have HD := Lib.hid hdone
      clear hdone
      go_upto_region 4 with fail
      go_wp2_with (go_at_call 90; refine hcall.mono ?_; intro e w9 hq; obtain ⟨v', rfl, hI⟩ := HD.out _ _ _ hq)
      go_ret
      exact hI
end Go.Proofs.YtllhimeffkefiaaGreatDoor
