import Derived.Test.YtnggimkkjdipmaaTW1
import Derived.Test.YtnggimkkjdipmaaTU8
namespace Go.Proofs.Ytnggimkkjdipmaa
open Go.RowKit
set_option linter.unusedVariables false
set_option linter.unusedSimpArgs false
set_option maxHeartbeats 16000000
set_option maxRecDepth 100000
theorem ap_least {T U : Tb} (hT : VT T) : ∀ {s u : Int}, Ap T U s u → ∀ k, RelL T k s → Ap (leastT T) U k u := by
  intro s u h
  induction h with
  | @here a b e h0 h1 hd =>
    intro k hk
    have e1 := diffR_false.mp (rel_step hT hk h0 h1).1
    refine Ap.here h0 h1 ?_
    cases hc : diffR ((leastT T).at k e) (U.at b e) with
    | true => rfl
    | false =>
      have e3 := diffR_false.mp hc
      have : diffR (T.at a e) (U.at b e) = false := diffR_false.mpr ⟨e1.1.trans e3.1, e1.2.trans e3.2⟩
      rw [hd] at this; cases this
  | next h0 h1 h2 h3 _ ih =>
    intro k hk
    have s1 := rel_step hT hk h0 h1
    have e1 := diffR_false.mp s1.1
    exact Ap.next h0 h1 (by have := e1.1; omega) h3 (ih _ (s1.2 h2))
theorem suite_words {M : Tb} (hM : VT M) {x : List Int} (hx : x ∈ suiteL M (tellsOf M)) : (∀ e ∈ x, 0 ≤ e ∧ e < M.ev) ∧ x.length ≤ 200 := by
  have h1 : x ∈ suiteAll M (tellsOf M) := (onceF_mem _ _).mp ((wholeL_mem _ _).mp hx).1
  unfold suiteAll at h1
  obtain ⟨c, hc, h2⟩ := List.mem_flatMap.mp h1
  rw [sWords_eq] at h2
  unfold sHead at h2
  obtain ⟨h, hh, h3⟩ := List.mem_flatMap.mp h2
  obtain ⟨t, ht, rfl⟩ := List.mem_map.mp h3
  have hst := hM.st
  have hcw : (∀ e ∈ c, 0 ≤ e ∧ e < M.ev) ∧ c.length ≤ 30 := by
    unfold coverL at hc
    obtain ⟨s, hs, rfl⟩ := List.mem_map.mp hc
    by_cases hm : (s : Int) ∈ keyW (walkT M)
    · obtain ⟨p, hp, _, e⟩ := lookW_get _ _ hm
      rw [← e]
      obtain ⟨g1, _, _⟩ := walk_wd hM p hp
      refine ⟨g1, ?_⟩
      obtain ⟨hok, _, _⟩ := walkF_law hM 40 0 _ rfl (WOk.start hM) ⟨[], rfl⟩ (fun k hk hki => by omega)
      obtain ⟨k, hk, rfl⟩ := List.getElem_of_mem hp
      have h1 : (walkT M)[k].2.length ≤ k := hok.len k hk
      have h2 := hok.le
      have h3 : k < (walkF M 40 0 [(M.sr, [])]).length := hk
      omega
    · rw [lookW_none _ _ hm]; simp
  have hhw : (∀ e ∈ h, 0 ≤ e ∧ e < M.ev) ∧ h.length ≤ 31 := by
    unfold headsL at hh
    rcases List.mem_cons.mp hh with rfl | hh
    · exact ⟨hcw.1, by have := hcw.2; omega⟩
    · obtain ⟨e, he, rfl⟩ := List.mem_map.mp hh
      have he := List.mem_range.mp he
      refine ⟨fun y hy => ?_, by have := hcw.2; simp; omega⟩
      rcases List.mem_append.mp hy with hy | hy
      · exact hcw.1 y hy
      · simp at hy; subst hy; exact ⟨by omega, by omega⟩
  have htw : (∀ e ∈ t, 0 ≤ e ∧ e < M.ev) ∧ t.length ≤ 60 := by
    rcases List.mem_cons.mp ht with rfl | ht
    · simp
    · refine ⟨?_, (tellAll_len hM).2 t ht⟩
      unfold tellsOf at ht
      rw [onceF_mem] at ht
      unfold tellAll at ht
      obtain ⟨a, ha, ht⟩ := List.mem_flatMap.mp ht
      unfold tellRow at ht
      obtain ⟨b, hb, hd⟩ := List.mem_filterMap.mp ht
      have ha' := List.mem_range.mp ha
      obtain ⟨i, hi, rfl⟩ := List.mem_range'.mp hb
      have h1 := (differT_words hM hM rfl (by omega) (by omega) t hd).1
      exact (dist_run hM hM rfl t _ _ ⟨by omega, by omega⟩ ⟨by omega, by omega⟩ h1).2.1
  refine ⟨fun e he => ?_, by have := hhw.2; have := htw.2; simp; omega⟩
  rcases List.mem_append.mp he with he | he
  · exact hhw.1 e he
  · exact htw.1 e he
theorem wm_of {T U : Tb} (hT : VT T) (hU : VT U) (hfT : Full T) (hfU : Full U) (hev : T.ev = U.ev) (hle : U.st ≤ (leastT T).st) : Wm (leastT T) U := by
  have hst : (leastT T).st = ((mems T).length : Int) := rfl
  exact ⟨least_valid hT, hU, hev, hfT.least hT, hfU, by rw [least_order hT, hst, Int.toNat_natCast], fun x y hx hy hne => least_pairs hT hx hy hne, hle⟩
/-- The suite finds what differs. -/
theorem suite_finds_full {T U : Tb} (hT : VT T) (hU : VT U) (hfT : Full T) (hfU : Full U) (hev : T.ev = U.ev) (hle : U.st ≤ (leastT T).st) : passF T U (suiteL (leastT T) (tellsOf (leastT T))) = alikeF T U := by
  have hW := wm_of hT hU hfT hfU hev hle
  have hL := least_valid hT
  have hsr : (leastT T).sr = 0 := rfl
  obtain ⟨S, hS⟩ : ∃ x, suiteL (leastT T) (tellsOf (leastT T)) = x := ⟨_, rfl⟩
  have hw : ∀ x ∈ S, (∀ e ∈ x, 0 ≤ e ∧ e < T.ev) ∧ x.length ≤ 200 := fun x hx => by rw [← hS] at hx; exact suite_words hL hx
  rw [hS]
  have hwd : S.any (fun l => !T.worded l) = false := by
    rw [List.any_eq_false]
    intro x hx
    obtain ⟨h1, h2⟩ := hw x hx
    have : T.worded x = true := by
      unfold Tb.worded
      simp only [Bool.and_eq_true, decide_eq_true_eq, List.all_eq_true]
      exact ⟨h2, fun e he => h1 e he⟩
    simp [this]
  have vT := (validT_iff T).mpr hT
  have vU := (validT_iff U).mpr hU
  unfold passF alikeF ValidTwo
  rw [vT, vU, decide_eq_true hev, hwd]
  simp only [Bool.and_self, Bool.not_false, if_true, Prod.mk.injEq, and_true]
  have hlaw := differT_law hT hU hev (a := T.sr) (b := U.sr) hT.sr hU.sr
  have hout : ∀ x ∈ S, outsF T x = ((leastT T).run (leastT T).sr x).1 := fun x hx => by
    unfold outsF
    rw [hsr]
    exact least_run hT x _ _ (hw x hx).1 (rel_start hT)
  by_cases hap : Ap T U T.sr U.sr
  · have h1 : (differT T U T.sr U.sr).isNone = false := by
      have := hlaw.mpr hap
      cases hd : differT T U T.sr U.sr with
      | none => rw [hd] at this; cases this
      | some _ => rfl
    rw [h1]
    have h2 : ¬ ∀ x ∈ suiteL (leastT T) (tellsOf (leastT T)), ((leastT T).run (leastT T).sr x).1 = (U.run U.sr x).1 := fun hp => hW.main hp (by rw [hsr]; exact ap_least hT hap 0 (rel_start hT))
    rw [hS] at h2
    rw [Bool.not_eq_false', List.any_eq_true]
    obtain ⟨x, hx⟩ := Classical.not_forall.mp h2
    obtain ⟨hx, hne⟩ := Classical.not_imp.mp hx
    refine ⟨x, hx, ?_⟩
    rw [Bool.not_eq_true', decide_eq_false_iff_not, hout x hx]
    exact hne
  · have h1 : (differT T U T.sr U.sr).isNone = true := by
      cases hd : differT T U T.sr U.sr with
      | none => rfl
      | some _ => rw [hd] at hlaw; exact absurd (hlaw.mp rfl) hap
    rw [h1, Bool.not_eq_true', List.any_eq_false]
    intro x hx
    have : outsF T x = outsF U x := alike_run x _ _ (hw x hx).1 hap
    simp [this]
theorem suite_finds {T U : Tb} (hT : VT T) (hU : VT U) (hmT : missL T = []) (hmU : missL U = []) (hev : T.ev = U.ev) (hle : U.st ≤ (leastT T).st) : passF T U (suiteL (leastT T) (tellsOf (leastT T))) = alikeF T U :=
  suite_finds_full hT hU (full_of hT hmT) (full_of hU hmU) hev hle
end Go.Proofs.Ytnggimkkjdipmaa
