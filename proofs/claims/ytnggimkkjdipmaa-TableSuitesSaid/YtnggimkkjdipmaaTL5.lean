import Derived.Test.YtnggimkkjdipmaaTLW
import Derived.Test.YtnggimkkjdipmaaTM4
import Derived.Lib.SliceRun
import Derived.Test.YtnggimkkjdipmaaSortF
import Derived.Shelf.SlSortCmp.NoneTotal
namespace Go.Proofs.Ytnggimkkjdipmaa
open Go.RowKit
set_option linter.unusedVariables false
set_option linter.unusedSimpArgs false
set_option maxHeartbeats 16000000
set_option maxRecDepth 100000
/-! ### CompactFunc of words -/
theorem compL_snoc (x : List Int) : ∀ (l : List (List Int)) (y : List Int), l.getLast? = some y → compL (l ++ [x]) = if y = x then compL l else compL l ++ [x]
  | [], y, h => by simp at h
  | [z], y, h => by
    simp at h; subst h
    simp only [List.cons_append, List.nil_append, compL]
    split <;> simp_all
  | z :: z2 :: l, y, h => by
    have h' : (z2 :: l).getLast? = some y := by simpa using h
    have ih := compL_snoc x (z2 :: l) y h'
    simp only [List.cons_append] at ih ⊢
    unfold compL
    rw [ih]
    split
    · rfl
    · split <;> simp
theorem compL_len : ∀ (l : List (List Int)), (compL l).length ≤ l.length
  | [] => by simp [compL]
  | [x] => by simp [compL]
  | x :: y :: l => by
    have := compL_len (y :: l)
    unfold compL
    split <;> simp at * <;> omega
theorem compL_pos (l : List (List Int)) (h : 0 < l.length) : 0 < (compL l).length := by
  cases l with
  | nil => simp at h
  | cons x l =>
    have := (compL_mem (x :: l) x).mpr (by simp)
    exact List.length_pos_of_mem this
theorem Row.setN {w : World} {b off n c : Nat} {us : List Value} (h : Row 1 w (.slice (some ⟨b, off, none⟩) n c) n us (some b)) (i : Nat) (hi : i < n) (u : Value) :
    (∃ x, w.cell? ⟨b, off + i, none⟩ = some x) ∧ w.frozen? ⟨b, off + i, none⟩ = false ∧ Row 1 (w.setCell ⟨b, off + i, none⟩ u) (.slice (some ⟨b, off, none⟩) n c) n (us.set i u) (some b) ∧ Fr [b] w (w.setCell ⟨b, off + i, none⟩ u) := by
  rcases h with ⟨e, _⟩ | ⟨b', off', cap, hb, hv, h3, h4, h5, h6, h7⟩
  · cases e
  · cases hv
    have a1 := h6 i (by omega)
    obtain ⟨x, hx⟩ := Option.isSome_iff_exists.mp a1.1
    have f : Fr [b] w (w.setCell ⟨b, off + i, none⟩ u) := (Fr.refl _ w).setCell (by simp) _
    have key : ∀ j, (w.setCell ⟨b, off + i, none⟩ u).cell? ⟨b, off + j, none⟩ = if j = i then some u else w.cell? ⟨b, off + j, none⟩ := fun j => by
      by_cases e : j = i
      · subst e; rw [if_pos rfl, World.cell?_setCell_same _ _ _ hx]
      · rw [if_neg e, World.cell?_setCell_other _ _ _ _ (by intro e'; injection e'; omega)]
    refine ⟨⟨x, hx⟩, a1.2, .inr ⟨b, off, c, rfl, rfl, h3, by simpa [World.setCell] using h4, by simpa using h5, fun j hj => ?_, fun j hj => ?_⟩, f⟩
    · refine ⟨?_, by rw [World.frozen?_setCell]; exact (h6 j hj).2⟩
      rw [key]; split
      · rfl
      · exact (h6 j hj).1
    · rw [key, h7 j hj]
      by_cases e : j = i
      · subst e; rw [if_pos rfl, List.getElem?_set_self (by omega)]
      · rw [if_neg e, List.getElem?_set_ne (fun e' => e e'.symm)]
theorem Row.cell1 {w : World} {b off n c : Nat} {us : List Value} (h : Row 1 w (.slice (some ⟨b, off, none⟩) n c) n us (some b)) (i : Nat) (hi : i < n) : w.cell? ⟨b, off + i, none⟩ = us[i]? := by
  rcases h with ⟨e, _⟩ | ⟨b', off', cap, hb, hv, h3, h4, h5, h6, h7⟩
  · cases e
  · cases hv; exact h7 i (by omega)
theorem Row.room {w : World} {b off n c : Nat} {us : List Value} (h : Row 1 w (.slice (some ⟨b, off, none⟩) n c) n us (some b)) (i : Nat) (hi : i < c) : (w.cell? ⟨b, off + i, none⟩).isSome = true ∧ w.frozen? ⟨b, off + i, none⟩ = false := by
  rcases h with ⟨e, _⟩ | ⟨b', off', cap, hb, hv, h3, h4, h5, h6, h7⟩
  · cases e
  · cases hv; exact h6 i (by omega)
/-- What is behind is cleared: the row is cut. -/
theorem Row.cutN {w : World} {b off n c : Nat} {us : List Value} (h : Row 1 w (.slice (some ⟨b, off, none⟩) n c) n us (some b)) (k : Nat) (hk : k ≤ n) (z : Value) :
    Row 1 (w.setCells b (off + k) (List.replicate (n - k) z)) (.slice (some ⟨b, off, none⟩) k c) k (us.take k) (some b) ∧ Fr [b] w (w.setCells b (off + k) (List.replicate (n - k) z)) := by
  have fr : Fr [b] w (w.setCells b (off + k) (List.replicate (n - k) z)) := Fr.setCells (by simp) _ _ _ (Fr.refl _ _)
  rcases h with ⟨e, _⟩ | ⟨b', off', cap, hb, hv, h3, h4, h5, h6, h7⟩
  · cases e
  · cases hv
    refine ⟨.inr ⟨b, off, c, rfl, rfl, by omega, Nat.lt_of_lt_of_le h4 fr.size, by rw [List.length_take]; omega, fun j hj => ⟨World.isSome_setCells b _ _ _ _ (h6 j hj).1, by rw [World.frozen?_setCells]; exact (h6 j hj).2⟩, fun j hj => ?_⟩, fr⟩
    rw [World.cell?_setCells_out b _ _ _ _ (fun _ _ => by simp; omega), h7 j (by omega), List.getElem?_take, if_pos (by omega)]
/-- The words of pairs. -/
abbrev wds (ps : List (Value × List Int)) : List (List Int) := ps.map (·.2)
theorem comp_step (ps : List (Value × List Int)) (j : Nat) (h0 : 0 < j) (h : j < ps.length) : compL (wds (ps.take (j + 1))) = if ps[j - 1].2 = ps[j].2 then compL (wds (ps.take j)) else compL (wds (ps.take j)) ++ [ps[j].2] := by
  rw [List.take_succ_eq_append_getElem h]
  unfold wds
  rw [List.map_append]
  refine compL_snoc _ _ _ ?_
  rw [List.getLast?_eq_getElem?]
  simp only [List.length_map, List.length_take, List.getElem?_map]
  rw [show min j ps.length - 1 = j - 1 by omega, List.getElem?_take, if_pos (by omega), List.getElem?_eq_getElem (by omega)]
  rfl
/-- In the midst: the first k are what is kept of the first j; from j - 1 on all is as it was. -/
structure CpI (ps arr : List (Value × List Int)) (k j : Nat) : Prop where
  len : arr.length = ps.length
  kept : wds (arr.take k) = compL (wds (ps.take j))
  rest : ∀ i (h : i < ps.length), j ≤ i + 1 → arr[i]? = some ps[i]
  sub : ∀ p ∈ arr, p ∈ ps
  kj : k ≤ j
theorem CpI.start (ps : List (Value × List Int)) (k : Nat) (h : k ≤ ps.length) (hd : compL (wds (ps.take k)) = wds (ps.take k)) : CpI ps ps k k :=
  ⟨rfl, hd.symm, fun i h _ => List.getElem?_eq_getElem h, fun p hp => hp, Nat.le_refl _⟩
theorem CpI.skip {ps arr : List (Value × List Int)} {k j : Nat} (h : CpI ps arr k j) (h0 : 0 < j) (hj : j < ps.length) (he : ps[j - 1].2 = ps[j].2) : CpI ps arr k (j + 1) :=
  ⟨h.len, by rw [comp_step ps j h0 hj, if_pos he]; exact h.kept, fun i hi hij => h.rest i hi (by omega), h.sub, by have := h.kj; omega⟩
theorem CpI.keep {ps arr : List (Value × List Int)} {k j : Nat} (h : CpI ps arr k j) (h0 : 0 < j) (hj : j < ps.length) (he : ¬ ps[j - 1].2 = ps[j].2) : CpI ps (arr.set k ps[j]) (k + 1) (j + 1) := by
  have hk := h.kj
  have hl := h.len
  refine ⟨by rw [List.length_set]; exact hl, ?_, fun i hi hij => ?_, fun p hp => ?_, by omega⟩
  · rw [comp_step ps j h0 hj, if_neg he, List.take_succ_eq_append_getElem (by rw [List.length_set]; omega)]
    unfold wds
    rw [List.map_append, List.take_set_of_le (Nat.le_refl _)]
    congr 1
    · exact h.kept
    · simp
  · by_cases e : k = i
    · have ej : j = i := by omega
      subst e
      rw [List.getElem?_set_self (by omega)]
      simp only [ej]
    · rw [List.getElem?_set_ne e]
      exact h.rest i hi (by omega)
  · rcases List.mem_or_eq_of_mem_set hp with e | e
    · exact h.sub p e
    · subst e; exact List.getElem_mem hj
theorem CpI.klt {ps arr : List (Value × List Int)} {k j : Nat} (h : CpI ps arr k j) (h0 : 0 < j) (hj : j ≤ ps.length) : 0 < k := by
  have h1 := compL_pos (wds (ps.take j)) (by simp; omega)
  rw [← h.kept] at h1
  simp at h1; omega
theorem vSl : ∀ w, (zeroValue 25).run Try.prog w = .ok (.slice none 0 0) w := fun w => by kernel_rfl
theorem uIntss2 : Try.prog.underlying 53 = some (.slice 25) := by kernel_rfl
theorem cf_equal : ∀ W args, (callFunc 66 args).run Try.prog W = .ok (.enter 66 args) W := by
  intro W args
  have hb : Try.f66.body.isNone = false := by kernel_rfl
  simp [callFunc, go_sem, Try.func66]
  rw [if_neg (by decide +kernel), if_neg (fun h => by rw [h] at hb; cases hb)]
def CompR (q : Nat → Prop) (w : World) (ps : List (Value × List Int)) (bo : Option Nat) (e : Ending) (w' : World) : Prop :=
  ∃ v' ps', e = .returned v' ∧ wds ps' = compL (wds ps) ∧ Wds q w' v' ps' bo ∧ (∀ p ∈ ps', p ∈ ps) ∧ Fr bo.toList w w'
theorem compact_any (q : Nat → Prop) (w : World) (v : Value) (ps : List (Value × List Int)) (bo : Option Nat) (h : Wds q w v ps bo) (hl : ∀ p ∈ ps, p.2.length ≤ 1000000) (hn : ps.length ≤ 1000000) :
    Calls Try.prog 100 #[v, .func (.func 66) #[] #[]] w (CompR q w ps bo) := by
  by_cases h2 : ps.length < 2
  · have hc : compL (wds ps) = wds ps := by
      match ps, h2 with
      | [], _ => rfl
      | [x], _ => rfl
      | x :: y :: l, h => simp at h; omega
    have GO : CompR q w ps bo (.returned v) w := ⟨v, ps, rfl, hc.symm, h, fun p hp => hp, Fr.refl _ _⟩
    obtain ⟨o, c, rfl⟩ := h.row.len
    have h2I : (ps.length : Int) < 2 := by omega
    replace h := Lib.hid h; replace hl := Lib.hid hl; replace GO := Lib.hid GO; replace hc := Lib.hid hc
    go_enter Try.func100, Try.ntmps100
    go_wp2_with fail
    go_ret
    exact GO.out
  have h2I : ¬ (ps.length : Int) < 2 := by omega
  have hrow := h.row
  rcases hrow with ⟨_, h3, _⟩ | ⟨blk, off, cap, hbo, rfl, hcap, hblk, h5, h6, h7⟩
  · omega
  -- what a comparison of neighbours answers, wherever the words lie untouched
  have EQ : ∀ W (i j : Nat) (hi : i < ps.length) (hj : j < ps.length), Fr [blk] w W → Calls Try.prog 66 #[ps[i].1, ps[j].1] W fun e w' => e = .returned (.bool (decide (ps[i].2 = ps[j].2))) ∧ Fr [] W w' := fun W i j hi hj f => by
    have n1 := ((h.each ps[i] (List.getElem_mem hi)).frq f (q' := fun _ => True) (fun b _ hq => ⟨fun hm => hq.2 (by rw [hbo]; simpa using hm), trivial⟩)).nin
    have n2 := ((h.each ps[j] (List.getElem_mem hj)).frq f (q' := fun _ => True) (fun b _ hq => ⟨fun hm => hq.2 (by rw [hbo]; simpa using hm), trivial⟩)).nin
    exact equal_any _ _ _ _ W n1 n2 (by have := hl ps[i] (List.getElem_mem hi); omega)
  have hcell : ∀ W (i : Nat) (hi : i < ps.length), Fr [] w W → W.cell? ⟨blk, off + i, none⟩ = some ps[i].1 := fun W i hi f => by
    rw [f.cell (p := ⟨blk, off + i, none⟩) hblk (by simp), h7 i (by omega)]; simp [hi]
  obtain ⟨N, hN⟩ : ∃ n, ps.length = n := ⟨_, rfl⟩
  rw [hN] at h2I hcap
  have h2N : 2 ≤ N := by omega
  have hNn : N ≤ 1000000 := by omega
  rw [hN]
  replace h := Lib.hid h; replace hl := Lib.hid hl; replace h6 := Lib.hid h6; replace h7 := Lib.hid h7; replace h5 := Lib.hid h5; replace EQ := Lib.hid EQ; replace hcell := Lib.hid hcell; replace hN := Lib.hid hN; replace hbo := Lib.hid hbo
  go_enter Try.func100, Try.ntmps100
  go_wp2_with fail
  go_loopg [5] N (fun k v5 wr => ∃ j : Nat, j + 1 ≤ N ∧ k + j = N ∧ v5 = .int .i64 ((j : Int) + 1) ∧ compL (wds (ps.take (j + 1))) = wds (ps.take (j + 1)) ∧ Fr [] w wr)
  case atStart => exact ⟨0, by omega, by omega, by go_num, by
    match ps, hN.out with
    | [], e => simp at e; omega
    | x :: l, _ => rfl, Fr.refl _ _⟩
  case round =>
    obtain ⟨j, hj, hk, rfl, hcp, hF⟩ := hrel
    obtain ⟨wi, rfl⟩ : ∃ x : World, x = wr := ⟨_, rfl⟩
    by_cases hlt : j + 1 < N
    · have hltI : (j : Int) + 1 < N := by omega
      have hltJ : (j : Int) < N := by omega
      have hltK : IntKind.i64.wrap (j : Int) = (j : Int) := by rw [IntKind.wrap_i64]; omega
      have hltL : (0 : Int) ≤ (j : Int) := by omega
      have hltM : (0 : Int) ≤ (j : Int) + 1 := by omega
      have hip : j + 1 < ps.length := by rw [hN.out]; exact hlt
      have hip1 : j < ps.length := by have := hN.out; omega
      have SS : ∀ W, Fr [] wi W → W.cell? ⟨blk, off + (j + 1), none⟩ = some ps[j + 1].1 ∧ W.cell? ⟨blk, off + j, none⟩ = some ps[j].1 := fun W f => ⟨hcell.out W (j + 1) hip (hF.trans f), hcell.out W j hip1 (hF.trans f)⟩
      have EW : ∀ W, Fr [] wi W → Calls Try.prog 66 #[ps[j + 1].1, ps[j].1] W fun e w' => e = .returned (.bool (decide (ps[j + 1].2 = ps[j].2))) ∧ Fr [] wi w' := fun W f => (EQ.out W (j + 1) j hip hip1 ((hF.trans f).mono (by simp))).mono fun e w' ⟨g1, g2⟩ => ⟨g1, f.trans g2⟩
      have hst := comp_step ps (j + 1) (by omega) hip
      obtain ⟨y, hy⟩ : ∃ y, decide (ps[j + 1].2 = ps[j].2) = y := ⟨_, rfl⟩
      rw [hy] at EW
      obtain ⟨p1, hp1⟩ : ∃ x, ps[j + 1].1 = x := ⟨_, rfl⟩
      obtain ⟨p2, hp2⟩ : ∃ x, ps[j].1 = x := ⟨_, rfl⟩
      simp only [hp1, hp2] at SS EW
      obtain ⟨s0, s1⟩ := SS wi (Fr.refl _ _)
      replace hcp := Lib.hid hcp; replace hF := Lib.hid hF; replace SS := Lib.hid SS; replace EW := Lib.hid EW; replace hst := Lib.hid hst; replace hy := Lib.hid hy; replace hp1 := Lib.hid hp1; replace hp2 := Lib.hid hp2
      clear s0 s1
      go_upto_region 6 with fail
      go_region_held3 (fun W => W.cell? ⟨blk, off + (j + 1), none⟩ = some p1 ∧ W.cell? ⟨blk, off + j, none⟩ = some p2)
        (first | exact SS.out _ (Fr.refl _ _).drew | exact SS.out _ f1.out)
        ((first
          | (go_at_call 66; with_reducible refine Calls.mono (EW.out _ ?hfr) ?_; (case hfr => exact (Fr.refl _ _).drew); rintro e w1 ⟨rfl, f1⟩; replace f1 := Lib.hid f1)))
      have F1 := Lib.hid (hF.out.trans f1.out)
      cases y
      · have he : ¬ ps[j].2 = ps[j + 1].2 := fun e => by have := hy.out; simp [e] at this
        have hst2 := hst.out
        simp only [Nat.add_sub_cancel] at hst2
        rw [if_neg he, hcp.out] at hst2
        have hnx : compL (wds (ps.take (j + 1 + 1))) = wds (ps.take (j + 1 + 1)) := by
          rw [hst2, List.take_succ_eq_append_getElem hip]; unfold wds; rw [List.map_append]; rfl
        replace hnx := Lib.hid hnx
        clear hst2 he
        go_wp2_with fail
        go_roundg (gk - 1)
        case measure => omega
        case rel => exact ⟨j + 1, by omega, by omega, by go_num, hnx.out, F1.out⟩
      · have he : ps[j].2 = ps[j + 1].2 := by have := hy.out; simp at this; exact this.symm
        have hC0 := Lib.hid ((CpI.start ps (j + 1) (by omega) hcp.out).skip (by omega) hip he)
        clear hst
        go_wp2_with fail
        obtain ⟨M, hM⟩ : ∃ M, N - (j + 1) = M := ⟨_, rfl⟩
        have hMN : N = j + 1 + M := by omega
        have hR0 : Row 1 w1 (.slice (some ⟨blk, off, none⟩) N cap) N (ps.map (·.1)) (some blk) := by
          have := h.out.row.fr F1.out (by simp)
          rw [hN.out, hbo.out] at this
          exact this
        rw [hM]
        replace hR0 := Lib.hid hR0; replace hM := Lib.hid hM; replace hMN := Lib.hid hMN
        go_loopg [5, 7] M (fun k v5 v7 wr => ∃ (t i : Nat) (arr : List (Value × List Int)), t + 1 ≤ M ∧ k + t = M ∧ v7 = .int .i64 ((t : Int) + 1) ∧ v5 = .int .i64 i ∧ CpI ps arr i (j + 1 + t + 1) ∧ i ≤ j + 1 + t ∧ Row 1 wr (.slice (some ⟨blk, off, none⟩) N cap) N (arr.map (·.1)) (some blk) ∧ Fr [blk] w wr)
        case atStart => exact ⟨0, j + 1, ps, by have := hMN.out; omega, by omega, by go_num, by go_num, hC0.out, by omega, hR0.out, F1.out.mono (by simp)⟩
        case round =>
          clear F1 f1 hcp hF SS EW hy hp1 hp2 hR0 hC0
          obtain ⟨t, i, arr, ht, hk2, rfl, rfl, hC, hij, hR, hF⟩ := hrel
          obtain ⟨wi2, rfl⟩ : ∃ x : World, x = wr := ⟨_, rfl⟩
          have hC1 := hC.len
          have hNo := hN.out
          have hMo := hMN.out
          have hb2 : blk < wi2.heap.size := Nat.lt_of_lt_of_le hblk hF.size
          by_cases hlt2 : t + 1 < M
          · have g1 : (t : Int) + 1 < M := by omega
            have g2 : (t : Int) < M := by omega
            have g3 : IntKind.i64.wrap (t : Int) = (t : Int) := by rw [IntKind.wrap_i64]; omega
            have g4 : (0 : Int) ≤ (t : Int) := by omega
            have g5 : (0 : Int) ≤ (t : Int) + 1 := by omega
            have g6 : (0 : Int) ≤ (i : Int) ∧ (i : Int) < N := by omega
            have hm1 : j + 1 + t + 1 < ps.length := by omega
            have hm0 : j + 1 + t < ps.length := by omega
            have c1 : wi2.cell? ⟨blk, off + (j + 1) + (t + 1), none⟩ = some ps[j + 1 + t + 1].1 := by
              have := hR.cell1 (j + 1 + t + 1) (by omega)
              rw [List.getElem?_map, hC.rest _ hm1 (by omega)] at this
              rw [show off + (j + 1) + (t + 1) = off + (j + 1 + t + 1) by omega]; exact this
            have c2 : wi2.cell? ⟨blk, off + (j + 1) + t, none⟩ = some ps[j + 1 + t].1 := by
              have := hR.cell1 (j + 1 + t) (by omega)
              rw [List.getElem?_map, hC.rest _ hm0 (by omega)] at this
              rw [show off + (j + 1) + t = off + (j + 1 + t) by omega]; exact this
            obtain ⟨o1, cc1, e1, _⟩ := h.out.each ps[j + 1 + t + 1] (List.getElem_mem hm1)
            have EW : ∀ W, Fr [] wi2 W → Calls Try.prog 66 #[ps[j + 1 + t + 1].1, ps[j + 1 + t].1] W fun e w' => e = .returned (.bool (decide (ps[j + 1 + t + 1].2 = ps[j + 1 + t].2))) ∧ Fr [] wi2 w' := fun W f => (EQ.out W _ _ hm1 hm0 (hF.trans (f.mono (by simp)))).mono fun e w' ⟨g1, g2⟩ => ⟨g1, f.trans g2⟩
            have hskip := hC.skip (by omega) hm1
            have hkeep := hC.keep (by omega) hm1
            simp only [Nat.add_sub_cancel] at hskip hkeep
            obtain ⟨x1, hx1⟩ : ∃ x, ps[j + 1 + t + 1] = x := ⟨_, rfl⟩
            obtain ⟨x0, hx0⟩ : ∃ x, ps[j + 1 + t] = x := ⟨_, rfl⟩
            rw [hx1] at c1 e1 hskip hkeep
            rw [hx0] at c2 hskip hkeep
            rw [hx1, hx0] at EW
            obtain ⟨a1, l1⟩ := x1
            obtain ⟨p2, l0⟩ := x0
            dsimp only at c1 c2 EW hskip hkeep e1
            obtain ⟨n1, hn1⟩ : ∃ n, l1.length = n := ⟨_, rfl⟩
            rw [hn1] at e1
            subst e1
            obtain ⟨y, hy⟩ : ∃ y, decide (l1 = l0) = y := ⟨_, rfl⟩
            rw [hy] at EW
            have SS : ∀ W, Fr [] wi2 W → W.cell? ⟨blk, off + (j + 1) + (t + 1), none⟩ = some (.slice o1 n1 cc1) ∧ W.cell? ⟨blk, off + (j + 1) + t, none⟩ = some p2 := fun W f => ⟨by rw [f.cell (p := ⟨blk, _, none⟩) hb2 (by simp)]; exact c1, by rw [f.cell (p := ⟨blk, _, none⟩) hb2 (by simp)]; exact c2⟩
            replace hC := Lib.hid hC; replace hR := Lib.hid hR; replace hF := Lib.hid hF; replace EW := Lib.hid EW; replace SS := Lib.hid SS; replace hy := Lib.hid hy; replace hx1 := Lib.hid hx1; replace hx0 := Lib.hid hx0; replace hn1 := Lib.hid hn1; replace hskip := Lib.hid hskip; replace hkeep := Lib.hid hkeep; replace hC1 := Lib.hid hC1; replace hNo := Lib.hid hNo; replace hMo := Lib.hid hMo
            clear c1 c2
            go_upto_region 11 with fail
            go_region_held3 (fun W => W.cell? ⟨blk, off + (j + 1) + (t + 1), none⟩ = some (.slice o1 n1 cc1) ∧ W.cell? ⟨blk, off + (j + 1) + t, none⟩ = some p2)
              (first | exact SS.out _ (Fr.refl _ _).drew | exact SS.out _ f2.out)
              ((first
                | (go_at_call 66; with_reducible refine Calls.mono (EW.out _ ?hfr) ?_; (case hfr => exact (Fr.refl _ _).drew); rintro e w2 ⟨rfl, f2⟩; replace f2 := Lib.hid f2)))
            have F2 := Lib.hid (hF.out.trans (f2.out.mono (by simp)))
            have R2 := Lib.hid (hR.out.fr f2.out (by simp))
            cases y
            · have hne : ¬ l0 = l1 := fun e => by have := hy.out; simp [e] at this
              have K := Lib.hid (hkeep.out hne)
              obtain ⟨⟨xx, hxx⟩, hfz, hR3, hF3⟩ := R2.out.setN i (by omega) (.slice o1 n1 cc1)
              rw [← List.map_set (f := fun p : Value × List Int => p.1) (a := (Value.slice o1 n1 cc1, l1))] at hR3
              obtain ⟨s0, s1⟩ := SS.out _ f2.out
              replace hR3 := Lib.hid hR3; replace hF3 := Lib.hid hF3
              go_wp2_with fail
              go_roundg (gk - 1)
              case measure => omega
              case rel => exact ⟨t + 1, i + 1, _, by omega, by omega, by go_num, by go_num, K.out, by omega, hR3.out, F2.out.trans hF3.out⟩
            · have heq : l0 = l1 := by have := hy.out; simp at this; exact this.symm
              have K := Lib.hid (hskip.out heq)
              go_wp2_with fail
              go_roundg (gk - 1)
              case measure => omega
              case rel => exact ⟨t + 1, i, arr, by omega, by omega, by go_num, by go_num, K.out, by omega, R2.out, F2.out⟩
          · have g1 : ¬ (t : Int) + 1 < M := by omega
            have hall := hC.kept
            rw [show j + 1 + t + 1 = N by omega, ← hNo, List.take_length] at hall
            obtain ⟨hR4, hF4⟩ := hR.cutN i (by omega) (.slice none 0 0)
            have hcl := fun ty => Lib.run_clear_slice (P := Try.prog) wi2 _ _ ty _ uIntss2 vSl rfl rfl blk (off + i) (N - i) (cap - i) (by omega) (fun t ht => by rw [Nat.add_assoc]; exact (hR.room _ (by omega)).1) (fun t ht => by rw [Nat.add_assoc]; exact (hR.room _ (by omega)).2)
            have hgg : (i : Int) ≤ N ∧ (i : Int) < cap := by omega
            have hg2 : i < cap ∧ i < N := by omega
            have hg3 : cap ≠ i := by omega
            have GO : CompR q w ps bo (.returned (.slice (some ⟨blk, off, none⟩) i cap)) (wi2.setCells blk (off + i) (List.replicate (N - i) (.slice none 0 0))) := by
              refine ⟨_, arr.take i, rfl, hall, ⟨?_, fun p hp => ?_, h.out.qo⟩, fun p hp => hC.sub p (List.mem_of_mem_take hp), ?_⟩
              · rw [List.length_take, show min i arr.length = i by omega, List.map_take, hbo.out]; exact hR4
              · exact (h.out.each p (hC.sub p (List.mem_of_mem_take hp))).frq (hF.trans hF4) (fun b _ hq => ⟨fun hm => hq.2 (by rw [hbo.out]; simpa using hm), hq⟩)
              · rw [hbo.out]; exact hF.trans hF4
            replace hC := Lib.hid hC; replace hR := Lib.hid hR; replace hF := Lib.hid hF; replace hC1 := Lib.hid hC1; replace hNo := Lib.hid hNo; replace hMo := Lib.hid hMo; replace GO := Lib.hid GO; replace hall := Lib.hid hall; replace hR4 := Lib.hid hR4; replace hF4 := Lib.hid hF4; replace hcl := Lib.hid hcl
            go_wp2_with fail
            rw [hcl.out]
            go_wp2_with fail
            go_ret
            exact GO.out
    · have hltI : ¬ (j : Int) + 1 < N := by omega
      have hall : compL (wds ps) = wds ps := by
        have := hcp
        rw [show j + 1 = N by omega, ← hN.out, List.take_length] at this
        exact this
      have GO : CompR q w ps bo (.returned (.slice (some ⟨blk, off, none⟩) N cap)) wi := ⟨_, ps, rfl, hall.symm, by rw [← hN.out]; exact h.out.fr hF (by simp), fun p hp => hp, hF.mono (by simp)⟩
      replace hcp := Lib.hid hcp; replace hF := Lib.hid hF; replace GO := Lib.hid GO; replace hall := Lib.hid hall
      go_wp2_with fail
      go_ret
      exact GO.out
end Go.Proofs.Ytnggimkkjdipmaa
namespace Go.Proofs.Ytnggimkkjdipmaa
open Go.RowKit
set_option linter.unusedVariables false
set_option linter.unusedSimpArgs false
set_option maxHeartbeats 16000000
set_option maxRecDepth 100000
/-! ### Words sorted -/
/-- A word that lies in memory, out of the row's block. -/
def WdA (w : World) (blk : Nat) : Type := { p : Value × List Int // NInB (fun b => b ≠ blk) w p.1 p.2 ∧ p.2.length ≤ 1000000 }
instance (w : World) (blk : Nat) : Inhabited (WdA w blk) := ⟨⟨(.slice none 0 0, []), ⟨none, 0, rfl, fun i hi => absurd hi (Nat.not_lt_zero _)⟩, by simp⟩⟩
theorem byLen_swo {α : Type} (f : α → List Int) : Go.Sort.SWO (ltOf fun x y : α => byLen (f x) (f y)) where
  irrefl x := by
    have := (byLen_zero (f x) (f x)).mpr rfl
    unfold ltOf; simp [this]
  trans x y z h1 h2 := by
    unfold ltOf at *
    simp only [decide_eq_true_eq] at *
    exact byLen_trans _ _ _ h1 h2
  ntrans x y z h1 h2 := by
    unfold ltOf at *
    simp only [decide_eq_false_iff_not] at *
    intro h
    have e1 := byLen_flip (f x) (f y)
    have e2 := byLen_flip (f y) (f z)
    by_cases a : f x = f y
    · rw [a] at h; exact h2 h
    · by_cases b : f y = f z
      · rw [← b] at h; exact h1 h
      · have a' : byLen (f x) (f y) ≠ 0 := fun e => a ((byLen_zero _ _).mp e)
        have b' : byLen (f y) (f z) ≠ 0 := fun e => b ((byLen_zero _ _).mp e)
        have := byLen_trans (f z) (f y) (f x) (by omega) (by omega)
        have := byLen_flip (f x) (f z)
        omega
theorem cf_bylen : ∀ W args, (callFunc 99 args).run Try.prog W = .ok (.enter 99 args) W := by
  intro W args
  have hb : Try.f99.body.isNone = false := by kernel_rfl
  simp [callFunc, go_sem, Try.func99]
  rw [if_neg (by decide +kernel), if_neg (fun h => by rw [h] at hb; cases hb)]
theorem sortWorld_fr {α : Type} [Inhabited α] (enc : α → Value) (w : World) (blk off n : Nat) (d : Array α) (os : Array Obj) : Fr [blk] w (sortWorld enc w blk off n d os) := by
  have hp : (Sort.putRow enc (Sort.ahead w n) blk off d).heap.size = w.heap.size := by simp [Sort.putRow, Sort.mapBlock, Sort.ahead]
  refine ⟨rfl, rfl, rfl, by simp only [sortWorld, Sort.grow, Array.size_append, hp]; omega, fun k hk hx => ?_⟩
  unfold sortWorld
  rw [Sort.heap_grow_old _ _ (by rw [hp]; exact hk)]
  simp at hx
  simp [Sort.putRow, Sort.mapBlock, Sort.ahead, Array.getElem?_modify, Ne.symm hx]
theorem sortWorld_cell {α : Type} [Inhabited α] (enc : α → Value) (w : World) (blk off n : Nat) (d0 d : Array α) (os : Array Obj) (hb : blk < w.heap.size) (hH : Go.Sort.Holds enc w blk off d0) (hs : d.size = d0.size) :
    (∀ j, j < d.size → (sortWorld enc w blk off n d os).cell? ⟨blk, off + j, none⟩ = some (enc d[j]!)) ∧ (∀ j, d.size ≤ j → (sortWorld enc w blk off n d os).cell? ⟨blk, off + j, none⟩ = w.cell? ⟨blk, off + j, none⟩) ∧ (∀ j, (sortWorld enc w blk off n d os).frozen? ⟨blk, off + j, none⟩ = w.frozen? ⟨blk, off + j, none⟩) := by
  have hp : (Sort.putRow enc (Sort.ahead w n) blk off d).heap.size = w.heap.size := by simp [Sort.putRow, Sort.mapBlock, Sort.ahead]
  refine ⟨fun j hj => ?_, fun j hj => ?_, fun j => ?_⟩
  · unfold sortWorld
    rw [Sort.cell?_grow _ _ _ (by rw [hp]; exact hb)]
    exact Sort.cell?_putRow enc (Sort.ahead w n) blk off d0 d (Sort.holds_ahead _ _ _ _ _ _ hH) hs j hj
  · unfold sortWorld
    rw [Sort.cell?_grow _ _ _ (by rw [hp]; exact hb), Sort.cell?_putRow_other _ _ _ _ _ _ (.inr (.inr (by show off + d.size ≤ off + j; omega)))]
    rfl
  · unfold sortWorld
    rw [Sort.frozen?_grow _ _ _ (by rw [hp]; exact hb), Sort.frozen?_putRow]
    rfl
def SortR (q : Nat → Prop) (w : World) (v : Value) (ps : List (Value × List Int)) (bo : Option Nat) (e : Ending) (w' : World) : Prop :=
  ∃ ps', e = .returned (.tuple #[]) ∧ ps'.Perm ps ∧ (ps'.map (·.2)).Pairwise (fun a b => ¬ byLen b a < 0) ∧ Wds q w' v ps' bo ∧ Fr bo.toList w w'
theorem sortW_any (q : Nat → Prop) (w : World) (v : Value) (ps : List (Value × List Int)) (bo : Option Nat) (h : Wds q w v ps bo) (hl : ∀ p ∈ ps, p.2.length ≤ 1000000) (hn : ps.length ≤ 1000000) :
    Calls Try.prog 97 #[v, .func (.func 99) #[] #[]] w (SortR q w v ps bo) := by
  rcases h.row with ⟨rfl, h2, _, o, rfl⟩ | ⟨blk, off, cap, rfl, rfl, h3, h4, h5, h6, h7⟩
  · have hps : ps = [] := List.eq_nil_of_length_eq_zero h2
    subst hps
    refine (AnyF.slices_SortFunc_none (P := Try.prog) (ρ := Try.sortW_ren) { Try.sortW with } o 0 _ w).mono fun e w' ⟨h1, h2⟩ => ?_
    subst h2
    exact ⟨[], h1, List.Perm.refl _, List.Pairwise.nil, h, Fr.refl _ _⟩
  · have hA : ∀ p ∈ ps, NInB (fun b => b ≠ blk) w p.1 p.2 ∧ p.2.length ≤ 1000000 := fun p hp => ⟨(h.each p hp).frq (Fr.refl [] w) (fun b _ hq => ⟨by simp, fun e => hq.2 (by simp [e])⟩), hl p hp⟩
    obtain ⟨d, hd⟩ : ∃ d : Array (WdA w blk), d.toList.map (·.1) = ps := ⟨(ps.attach.map fun p => (⟨p.1, hA p.1 p.2⟩ : WdA w blk)).toArray, by
      show ((ps.attach.map fun p => (⟨p.1, hA p.1 p.2⟩ : WdA w blk)).map (·.1)) = ps
      rw [List.map_map]; exact List.attach_map_subtype_val ps⟩
    have hsz : d.size = ps.length := by rw [← hd]; simp
    have hdj : ∀ j (hj : j < d.size), d[j]! = d[j] := fun j hj => getElem!_pos d j hj
    have hH : Go.Sort.Holds (fun x : WdA w blk => x.1.1) w blk off d := fun j hj => by
      refine ⟨?_, (h6 j (by omega)).2⟩
      rw [h7 j (by omega), hdj j hj, ← hd]
      simp [hj]
    have hcmp : CmpLays1 Try.prog 99 #[] (fun x : WdA w blk => x.1.1) (fun x y => byLen x.1.2 y.1.2) blk off d.size w := fun m os dk hdk x y => by
      have fs := sortWorld_fr (fun x : WdA w blk => x.1.1) w blk off m dk os
      have := bylen_any x.1.1 y.1.1 x.1.2 y.1.2 (sortWorld (fun x : WdA w blk => x.1.1) w blk off m dk os) ((x.2.1.frq fs (q' := fun _ => True) (fun b _ hq => ⟨by simp; exact hq, trivial⟩)).nin) ((y.2.1.frq fs (q' := fun _ => True) (fun b _ hq => ⟨by simp; exact hq, trivial⟩)).nin) x.2.2 y.2.2
      exact this.mono fun e w' ⟨h1, o, h2⟩ => ⟨h1, 0, #[o], by rw [h2, Go.Sort.alloc_eq_grow]; rfl⟩
    have C := Any.slices_SortFunc Try.sortW (fun x : WdA w blk => x.1.1) (fun x => by obtain ⟨o, c, e, _⟩ := x.2.1; dsimp only; rw [e]; rfl) (fun x y => byLen x.1.2 y.1.2) (byLen_swo fun x : WdA w blk => x.1.2) 99 #[] blk off cap d w (fun args W => cf_bylen W args) hcmp hH h4 (by omega)
    rw [hsz] at C
    refine C.mono fun e w' ⟨h1, d', n, os, hp, hs, hw⟩ => ?_
    obtain ⟨hps, _, hperm⟩ := hp
    have hsz' : d'.size = d.size := hps
    obtain ⟨c1, c2, c3⟩ := sortWorld_cell (fun x : WdA w blk => x.1.1) w blk off n d d' os h4 hH hsz'
    have hfr := sortWorld_fr (fun x : WdA w blk => x.1.1) w blk off n d' os
    rw [← hw] at c1 c2 c3 hfr
    have hperm2 : (d'.toList.map (·.1)).Perm ps := by
      rw [← hd]
      refine List.Perm.map _ ?_
      have e1 : (d'.extract 0 ps.length).toList = d'.toList := by rw [Array.toList_extract]; simp [List.extract]; exact List.take_of_length_le (by rw [Array.length_toList]; omega)
      have e2 : (d.extract 0 ps.length).toList = d.toList := by rw [Array.toList_extract]; simp [List.extract]; exact List.take_of_length_le (by rw [Array.length_toList]; omega)
      rw [← e1, ← e2]
      exact hperm
    have hln : (d'.toList.map (·.1)).length = ps.length := hperm2.length_eq
    have hd'j : ∀ j (hj : j < d'.size), d'[j]! = d'[j] := fun j hj => getElem!_pos d' j hj
    refine ⟨d'.toList.map (·.1), h1, hperm2, ?_, ⟨?_, fun p hp => ?_, h.qo⟩, by simpa using hfr⟩
    · rw [List.map_map, List.pairwise_iff_getElem]
      intro i j hi hj hij
      simp only [List.length_map, Array.length_toList] at hi hj
      have := hs i j (Nat.zero_le _) hij (by omega)
      rw [hd'j i hi, hd'j j hj] at this
      unfold ltOf at this
      simpa using this
    · rw [hln]
      refine .inr ⟨blk, off, cap, rfl, rfl, h3, Nat.lt_of_lt_of_le h4 hfr.size, by simp [hsz', hsz], fun j hj => ⟨?_, by rw [c3]; exact (h6 j hj).2⟩, fun j hj => ?_⟩
      · by_cases e : j < d'.size
        · rw [c1 j e]; rfl
        · rw [c2 j (by omega)]; exact (h6 j hj).1
      · have e : j < d'.size := by omega
        rw [c1 j e, hd'j j e]
        simp [e]
    · have hp2 : p ∈ ps := hperm2.mem_iff.mp hp
      exact (h.each p hp2).frq hfr (fun b _ hq => ⟨fun hm => hq.2 (by simpa using hm), hq⟩)
end Go.Proofs.Ytnggimkkjdipmaa
namespace Go.Proofs.Ytnggimkkjdipmaa
open Go.RowKit
set_option linter.unusedVariables false
set_option linter.unusedSimpArgs false
set_option maxHeartbeats 16000000
set_option maxRecDepth 100000
/-! ### once: words sorted, doubles left out -/
def OnceR (q : Nat → Prop) (w : World) (ps : List (Value × List Int)) (bo : Option Nat) (e : Ending) (w' : World) : Prop :=
  ∃ v' ps', e = .returned v' ∧ wds ps' = onceF (wds ps) ∧ Wds q w' v' ps' bo ∧ (∀ p ∈ ps', p ∈ ps) ∧ Fr bo.toList w w'
theorem once_any (q : Nat → Prop) (w : World) (v : Value) (ps : List (Value × List Int)) (bo : Option Nat) (h : Wds q w v ps bo) (hl : ∀ p ∈ ps, p.2.length ≤ 1000000) (hn : ps.length ≤ 1000000) :
    Calls Try.prog 82 #[v] w (OnceR q w ps bo) := by
  have C1 := sortW_any q w v ps bo h hl hn
  have C2 : ∀ w1 ps1, ps1.Perm ps → Wds q w1 v ps1 bo → Calls Try.prog 100 #[v, .func (.func 66) #[] #[]] w1 (CompR q w1 ps1 bo) := fun w1 ps1 hp hW => compact_any q w1 v ps1 bo hW (fun p hm => hl p (hp.mem_iff.mp hm)) (by rw [hp.length_eq]; exact hn)
  obtain ⟨o, c, rfl⟩ := h.row.len
  obtain ⟨N, hN⟩ : ∃ n, ps.length = n := ⟨_, rfl⟩
  rw [hN] at C1 C2 ⊢
  replace h := Lib.hid h; replace hl := Lib.hid hl; replace hn := Lib.hid hn; replace C1 := Lib.hid C1; replace C2 := Lib.hid C2; replace hN := Lib.hid hN
  go_enter Try.func82, Try.ntmps82
  go_wp2_with fail
  refine C1.out.mono ?_
  rintro e w1 ⟨ps1, rfl, hp1, hs1, hW1, f1⟩
  have C3 := C2.out w1 ps1 hp1 hW1
  have HC : compL (wds ps1) = onceF (wds ps) := comp_once hs1 fun x => (hp1.map (·.2)).mem_iff
  replace hp1 := Lib.hid hp1; replace hW1 := Lib.hid hW1; replace f1 := Lib.hid f1; replace C3 := Lib.hid C3; replace HC := Lib.hid HC
  clear hs1
  go_wp2_with fail
  refine C3.out.mono ?_
  rintro e w2 ⟨v2, ps2, rfl, hp2, hW2, hm2, f2⟩
  have GO : OnceR q w ps bo (.returned v2) w2 := ⟨v2, ps2, rfl, hp2.trans HC.out, hW2, fun p hp => hp1.out.mem_iff.mp (hm2 p hp), f1.out.trans f2⟩
  replace hp2 := Lib.hid hp2; replace hW2 := Lib.hid hW2; replace hm2 := Lib.hid hm2; replace f2 := Lib.hid f2; replace GO := Lib.hid GO
  go_wp2_with fail
  go_ret
  exact GO.out
end Go.Proofs.Ytnggimkkjdipmaa
