import Derived.Test.YtnggimkkjdipmaaTC1
namespace Go.Proofs.Ytnggimkkjdipmaa
open Go.RowKit
set_option linter.unusedVariables false
set_option linter.unusedSimpArgs false
/-! ### The passes of the reference's reached -/
/-- In the midst of a pass that began with R0: at state i, event j. -/
structure PaR (T : Tb) (R0 R : Nat → Bool) (i j : Nat) : Prop where
  so : SoR T R
  up : ∀ s, R0 s = true → R s = true
  done : ∀ s, s < i → CloR T R0 R s
  now : R0 i = true → ∀ e : Nat, e < j → 0 ≤ (T.at i e).1 → R (T.at i e).1.toNat = true
  keep : (∀ s : Nat, (s : Int) < T.st → CloR T R0 R0 s) → ∀ s, R s = true → R0 s = true
def cntR (n : Nat) (R : Nat → Bool) : Nat := (List.range n).countP R
theorem PaR.start {T : Tb} {R : Nat → Bool} (h : SoR T R) : PaR T R R 0 0 := ⟨h, fun _ h => h, (fun s hs => by omega), (fun _ e he => by omega), fun _ _ h => h⟩
theorem PaR.next {T : Tb} {R0 R : Nat → Bool} {i j : Nat} (h : PaR T R0 R i j) (hj : T.ev ≤ (j : Int) ∨ R i = false) : PaR T R0 R (i + 1) 0 := by
  refine ⟨h.so, h.up, fun s hs h0 e he hn => ?_, (fun _ e he => by omega), h.keep⟩
  by_cases hsi : s < i
  · exact h.done s hsi h0 e he hn
  · obtain rfl : s = i := by omega
    rcases hj with hj | hj
    · exact h.now h0 e (by omega) hn
    · have := h.up s h0; rw [hj] at this; cases this
theorem PaR.skip {T : Tb} {R0 R : Nat → Bool} {i j : Nat} (h : PaR T R0 R i j) (hn : (T.at i j).1 < 0) : PaR T R0 R i (j + 1) := by
  refine ⟨h.so, h.up, h.done, fun h0 e he hx => ?_, h.keep⟩
  by_cases hej : e < j
  · exact h.now h0 e hej hx
  · obtain rfl : e = j := by omega
    omega
theorem PaR.put {T : Tb} (hT : VT T) {R0 R : Nat → Bool} {i j : Nat} (h : PaR T R0 R i j) (hi : (i : Int) < T.st) (hj : (j : Int) < T.ev) (hR : R i = true) (hn : 0 ≤ (T.at i j).1) : PaR T R0 (fun s => if s = (T.at i j).1.toNat then true else R s) i (j + 1) := by
  have key : ∀ s, R s = true → (if s = (T.at i j).1.toNat then true else R s) = true := fun s hs => by split <;> simp_all
  refine ⟨⟨key _ h.so.1, fun s hs hc => ?_⟩, fun s hs => key s (h.up s hs), fun s hs h0 e he hx => key _ (h.done s hs h0 e he hx), fun h0 e he hx => ?_, fun hc s hs => ?_⟩
  · dsimp only at hc
    by_cases hsn : s = (T.at i j).1.toNat
    · have := (order_ok hT).clo _ (h.so.2 i hi hR) (j : Int) (by omega) hj hn
      rw [hsn, Int.toNat_of_nonneg hn]; exact this
    · rw [if_neg hsn] at hc
      exact h.so.2 s hs hc
  · by_cases hej : e < j
    · exact key _ (h.now h0 e hej hx)
    · obtain rfl : e = j := by omega
      rw [if_pos rfl]
  · skip
    by_cases hsn : s = (T.at i j).1.toNat
    · subst hsn; exact hc i hi (h.keep hc i hR) j hj hn
    · rw [if_neg hsn] at hs; exact h.keep hc s hs
theorem PaR.fin {T : Tb} {R0 R : Nat → Bool} {n : Nat} (h : PaR T R0 R n 0) : (∀ s, s < n → CloR T R R s) ∨ cntR n R0 < cntR n R := by
  by_cases hx : ∃ s, s < n ∧ R s = true ∧ R0 s = false
  · obtain ⟨s, h1, h2, h3⟩ := hx
    exact .inr (countP_less _ _ _ s (fun y _ hy => h.up y hy) (List.mem_range.mpr h1) h2 h3)
  · refine .inl fun s hs hR e he hn => ?_
    have h0 : R0 s = true := by
      cases hc : R0 s with
      | true => rfl
      | false => exact absurd ⟨s, hs, hR, hc⟩ hx
    exact h.done s hs h0 e he hn
/-- Once closed, a pass leaves it closed: what it sets is set. -/
theorem PaR.still {T : Tb} {R0 R : Nat → Bool} {i j : Nat} (h : PaR T R0 R i j) (hc : ∀ s : Nat, (s : Int) < T.st → CloR T R0 R0 s) : ∀ s : Nat, (s : Int) < T.st → CloR T R R s := fun s hs hR e he hn => h.up _ (hc s hs (h.keep hc s hR) e he hn)
theorem cntR_le (n : Nat) (R : Nat → Bool) : cntR n R ≤ n := by
  have := List.countP_le_length (p := R) (l := List.range n)
  simpa [cntR] using this
end Go.Proofs.Ytnggimkkjdipmaa
