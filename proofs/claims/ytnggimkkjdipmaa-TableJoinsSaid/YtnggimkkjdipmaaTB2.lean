import Derived.Test.YtnggimkkjdipmaaTB1
namespace Go.Proofs.Ytnggimkkjdipmaa
open Go.RowKit
set_option linter.unusedVariables false
set_option linter.unusedSimpArgs false
set_option maxHeartbeats 8000000
set_option maxRecDepth 20000
theorem rowOk_iff (st : Int) (r : Int × Int) : rowOk st r = true ↔ -1 ≤ r.1 ∧ r.1 < st ∧ 0 ≤ r.2 ∧ r.2 ≤ 999 ∧ (0 ≤ r.1 ∨ r.2 = 0) := by
  simp only [rowOk, Bool.and_eq_true, Bool.or_eq_true, decide_eq_true_eq, and_assoc]
theorem rowsOk_no {T : Tb} {i : Nat} (h : i < T.rows.length) (hb : ¬ ((T.rows[i].length : Int) = T.ev) ∨ ∃ (j : Nat) (hj : j < T.rows[i].length), ¬ rowOk T.st T.rows[i][j] = true) : validT T = false := by
  have : rowsOk T = false := by
    unfold rowsOk
    rw [List.all_eq_false]
    refine ⟨T.rows[i], List.getElem_mem h, ?_⟩
    rcases hb with hb | ⟨j, hj, hb⟩
    · simp [hb]
    · intro hh
      simp only [Bool.and_eq_true, List.all_eq_true] at hh
      exact hb (hh.2 _ (List.getElem_mem hj))
  unfold validT
  rw [this, Bool.and_false]
theorem valid_head (T : Tb) (r : Value) (w : World) (h : headOk T = false) (hr : ∃ o cap, r = .slice o T.rows.length cap) : Calls Try.prog 19 #[T.val r] w fun e w' => e = .returned (.bool false) ∧ Fr [] w w' := by
  obtain ⟨o, cap, rfl⟩ := hr
  obtain ⟨st, ev, sr, rows⟩ := T
  obtain ⟨n, hn⟩ : ∃ n, rows.length = n := ⟨_, rfl⟩
  have hc : st < 1 ∨ (¬ st < 1 ∧ 30 < st) ∨ (¬ st < 1 ∧ ¬ 30 < st ∧ ev < 1) ∨ (¬ st < 1 ∧ ¬ 30 < st ∧ ¬ ev < 1 ∧ 12 < ev) ∨ (¬ st < 1 ∧ ¬ 30 < st ∧ ¬ ev < 1 ∧ ¬ 12 < ev ∧ sr < 0) ∨ (¬ st < 1 ∧ ¬ 30 < st ∧ ¬ ev < 1 ∧ ¬ 12 < ev ∧ ¬ sr < 0 ∧ st ≤ sr) ∨ (¬ st < 1 ∧ ¬ 30 < st ∧ ¬ ev < 1 ∧ ¬ 12 < ev ∧ ¬ sr < 0 ∧ ¬ st ≤ sr ∧ ((n : Int) != st) = true) := by
    have h' : ¬ headOk ⟨st, ev, sr, rows⟩ = true := by rw [h]; simp
    simp only [headOk, Bool.and_eq_true, decide_eq_true_eq, hn] at h'
    simp only [bne_iff_ne]
    omega
  dsimp only [Tb.val]
  rw [hn]
  clear h hn
  have F0 : ∀ o, Fr [] w (w.alloc o) := fun o => (Fr.refl [] w).alloc o
  rcases hc with c1 | ⟨c1, c2⟩ | ⟨c1, c2, c3⟩ | ⟨c1, c2, c3, c4⟩ | ⟨c1, c2, c3, c4, c5⟩ | ⟨c1, c2, c3, c4, c5, c6⟩ | ⟨c1, c2, c3, c4, c5, c6, c7⟩
  all_goals
    go_enter Try.func19, Try.ntmps19
    go_wp2_with fail
    go_ret
    exact ⟨rfl, F0 _⟩
end Go.Proofs.Ytnggimkkjdipmaa
