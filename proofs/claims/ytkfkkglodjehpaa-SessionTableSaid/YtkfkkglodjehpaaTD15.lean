import Derived.Test.YtkfkkglodjehpaaTD14
namespace Go.Proofs.Ytkfkkglodjehpaa
open Go.RowKit
set_option linter.unusedVariables false
set_option linter.unusedSimpArgs false
/-! ### What the two tables do with the word that Differ gives -/
theorem dist_run {T U : Tb} (hT : VT T) (hU : VT U) (hev : T.ev = U.ev) : ∀ (w : List Int) (a b : Int), 0 ≤ a ∧ a < T.st → 0 ≤ b ∧ b < U.st → Dist T U a b w →
    w ≠ [] ∧ (∀ e ∈ w, 0 ≤ e ∧ e < T.ev) ∧ (T.run a w.dropLast).1 = (U.run b w.dropLast).1 ∧ (T.run a w.dropLast).1.length = w.length - 1 ∧ (T.run a w).1 ≠ (U.run b w).1
  | [], a, b, _, _, h => by cases h
  | e :: w, a, b, ha, hb, h => by
    obtain ⟨h0, h1, h2⟩ := h
    have r1 := hT.atOk ha.1 ha.2 h0 h1
    have r2 := hU.atOk hb.1 hb.2 h0 (by omega)
    rcases h2 with ⟨hd, rfl⟩ | ⟨hd, hn, hD⟩
    · refine ⟨by simp, fun x hx => by simp at hx; subst hx; exact ⟨h0, h1⟩, by simp [Tb.run], by simp [Tb.run], ?_⟩
      have hne : ¬ ((((T.at a e).1 < 0) ↔ ((U.at b e).1 < 0)) ∧ (T.at a e).2 = (U.at b e).2) := fun hc => by
        have := diffR_false.mpr hc; rw [hd] at this; cases this
      by_cases hx : (T.at a e).1 < 0 <;> by_cases hy : (U.at b e).1 < 0
      · exact absurd ⟨⟨fun _ => hy, fun _ => hx⟩, by rw [r1.2.2.2.2 hx, r2.2.2.2.2 hy]⟩ hne
      · simp [Tb.run, hx, hy]
      · simp [Tb.run, hx, hy]
      · simp only [Tb.run, hx, hy, if_false]
        intro hc
        exact hne ⟨⟨fun h => absurd h hx, fun h => absurd h hy⟩, by simpa using hc⟩
    · have hs := diffR_false.mp hd
      have hx : ¬ (T.at a e).1 < 0 := by omega
      have hy : ¬ (U.at b e).1 < 0 := by have := hs.1; omega
      obtain ⟨g1, g2, g3, g4, g5⟩ := dist_run hT hU hev w _ _ ⟨hn, r1.2.1⟩ ⟨by omega, r2.2.1⟩ hD
      have hdl : (e :: w).dropLast = e :: w.dropLast := by cases w with | nil => exact absurd rfl g1 | cons _ _ => rfl
      refine ⟨by simp, fun x hx => ?_, ?_, ?_, ?_⟩
      · rcases List.mem_cons.mp hx with rfl | hx
        · exact ⟨h0, h1⟩
        · exact g2 x hx
      · rw [hdl]; simp only [Tb.run, hx, hy, if_false]; rw [g3, hs.2]
      · rw [hdl]; simp only [Tb.run, hx, if_false, List.length_cons]; rw [g4]
        have : w.length ≠ 0 := fun hc => g1 (List.length_eq_zero_iff.mp hc)
        omega
      · simp only [Tb.run, hx, hy, if_false]
        intro hc
        simp only [List.cons.injEq] at hc
        exact g5 hc.2
/-- Differ's word, if there is one. -/
theorem differF_law (T : Tb) (a : Int) (U : Tb) (b : Int) (h : (differF T a U b).2 = 0) :
    (differF T a U b).1 ≠ [] ∧ (differF T a U b).1.length ≤ 60 ∧
      (T.Run a (differF T a U b).1).2.2 = 0 ∧ (U.Run b (differF T a U b).1).2.2 = 0 ∧ (T.Run a (differF T a U b).1.dropLast).2.2 = 0 ∧ (U.Run b (differF T a U b).1.dropLast).2.2 = 0 ∧
      (T.Run a (differF T a U b).1).1 ≠ (U.Run b (differF T a U b).1).1 ∧ (T.Run a (differF T a U b).1.dropLast).1 = (U.Run b (differF T a U b).1.dropLast).1 ∧ (T.Run a (differF T a U b).1.dropLast).1.length = (differF T a U b).1.length - 1 := by
  unfold differF at h ⊢
  split at h
  · rename_i hc
    rw [if_pos hc]
    cases hd : differT T U a b with
    | none => rw [hd] at h; cases h
    | some w =>
      simp only [Bool.and_eq_true] at hc
      obtain ⟨hT, hU, hev⟩ := validTwo hc.1.1
      have h1 : 0 ≤ a ∧ a < T.st := by have := hc.1.2; simpa [Tb.has] using this
      have h2 : 0 ≤ b ∧ b < U.st := by have := hc.2; simpa [Tb.has] using this
      obtain ⟨hD, hl⟩ := differT_words hT hU hev h1 h2 w hd
      obtain ⟨g1, g2, g3, g4, g5⟩ := dist_run hT hU hev w a b h1 h2 hD
      dsimp only
      have wd : ∀ l : List Int, (∀ e ∈ l, e ∈ w) → l.length ≤ 60 → T.Run a l = ((T.run a l).1, (T.run a l).2, 0) ∧ U.Run b l = ((U.run b l).1, (U.run b l).2, 0) := fun l hs hn => by
        have w1 : T.worded l = true := by
          unfold Tb.worded
          rw [Bool.and_eq_true]
          exact ⟨decide_eq_true (by omega), List.all_eq_true.mpr fun e he => by have := g2 e (hs e he); simp; exact this⟩
        have w2 : U.worded l = true := by
          unfold Tb.worded
          rw [Bool.and_eq_true]
          exact ⟨decide_eq_true (by omega), List.all_eq_true.mpr fun e he => by have := g2 e (hs e he); simp; omega⟩
        have v1 := (validT_iff T).mpr hT
        have v2 := (validT_iff U).mpr hU
        unfold Tb.Run
        rw [if_pos (by rw [v1, hc.1.2, w1]; rfl), if_pos (by rw [v2, hc.2, w2]; rfl)]
        exact ⟨rfl, rfl⟩
      obtain ⟨e1, e2⟩ := wd w (fun e he => he) hl
      obtain ⟨e3, e4⟩ := wd w.dropLast (fun e he => List.dropLast_subset _ he) (by rw [List.length_dropLast]; omega)
      rw [e1, e2, e3, e4]
      exact ⟨g1, hl, rfl, rfl, rfl, rfl, g5, g3, g4⟩
  · cases h
end Go.Proofs.Ytkfkkglodjehpaa
