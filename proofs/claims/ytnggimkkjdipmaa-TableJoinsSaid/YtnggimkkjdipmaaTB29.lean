import Derived.Test.YtnggimkkjdipmaaTB28
namespace Go.Proofs.Ytnggimkkjdipmaa
open Go.RowKit
set_option linter.unusedVariables false
set_option linter.unusedSimpArgs false
set_option maxHeartbeats 16000000
set_option maxRecDepth 100000
/-- A queue of pairs: its first, and what is left. -/
theorem Row.popP {w : World} {v : Value} {x : Int × Int} {t : List (Int × Int)} {bo : Option Nat} (h : Row 2 w v (x :: t).length (pcells (x :: t)) bo) :
    ∃ b off cap, v = .slice (some ⟨b, off, none⟩) (t.length + 1) cap ∧ t.length + 1 ≤ cap ∧ b < w.heap.size ∧ bo = some b ∧ w.cell? ⟨b, off, none⟩ = some (.int .i64 x.1) ∧ w.cell? ⟨b, off + 1, none⟩ = some (.int .i64 x.2) ∧
      ∀ u, u = (if cap = 1 then Value.slice (some ⟨b, off, none⟩) t.length 0 else .slice (some ⟨b, off + 2, none⟩) t.length (cap - 1)) → ∃ o', Row 2 w u t.length (pcells t) o' ∧ (o' = bo ∨ o' = none) := by
  have hcl : pcells (x :: t) = [.int .i64 x.1, .int .i64 x.2] ++ pcells t := rfl
  rcases h with ⟨_, h2, _⟩ | ⟨b, off, cap, hb, hv, h3, h4, h5, h6, h7⟩
  · simp at h2
  · simp only [List.length_cons] at h3 h5 h7
    refine ⟨b, off, cap, hv, h3, h4, hb, ?_, ?_, fun u hu => ?_⟩
    · have := h7 0 (by omega)
      rw [Nat.add_zero] at this
      rw [this, hcl]; rfl
    · rw [h7 1 (by omega), hcl]; rfl
    · by_cases hc1 : cap = 1
      · rw [if_pos hc1] at hu
        have hr0 : t = [] := by cases t with | nil => rfl | cons _ _ => simp at h3; omega
        subst hr0
        rw [hu]
        exact ⟨none, Row.nil 2 w _, .inr rfl⟩
      · rw [if_neg hc1] at hu
        refine ⟨some b, .inr ⟨b, off + 2, cap - 1, rfl, hu, by omega, h4, pcells_len t, fun j hj => ?_, fun j hj => ?_⟩, .inl hb.symm⟩
        · rw [Nat.add_assoc]; exact h6 _ (by omega)
        · rw [Nat.add_assoc, h7 _ (by omega), hcl, List.getElem?_append_right (show 2 ≤ 2 + j by omega)]
          congr 1
          show 2 + j - 2 = j
          omega
end Go.Proofs.Ytnggimkkjdipmaa
