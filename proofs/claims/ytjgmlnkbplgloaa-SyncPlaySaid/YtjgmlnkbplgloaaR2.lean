import Derived.Test.YtjgmlnkbplgloaaR1
namespace Go.Proofs.Ytjgmlnkbplgloaa
open Go.RowKit
set_option linter.unusedVariables false
set_option linter.unusedSimpArgs false
set_option maxHeartbeats 8000000
set_option maxRecDepth 20000
theorem a_cases (a : Int) : (decide (0 ≤ a) = false ∧ inR a = false) ∨ (decide (0 ≤ a) = true ∧ decide (a ≤ 999999) = true ∧ inR a = true) ∨ (decide (0 ≤ a) = true ∧ decide (a ≤ 999999) = false ∧ inR a = false) := by
  unfold inR
  by_cases h0 : 0 ≤ a <;> by_cases h1 : a ≤ 999999 <;> simp [h0, h1]
theorem b_cases (b : Int) : ((decide (b < 0) = true ∧ b < 0) ∧ bOk b = false) ∨ ((decide (b < 0) = false ∧ decide (2 < b) = false ∧ ¬ b < 0 ∧ ¬ 2 < b) ∧ bOk b = true) ∨ ((decide (b < 0) = false ∧ decide (2 < b) = true ∧ ¬ b < 0 ∧ 2 < b) ∧ bOk b = false) := by
  unfold bOk
  rcases (by omega : b < 0 ∨ (0 ≤ b ∧ b ≤ 2) ∨ 2 < b) with h | ⟨h, h'⟩ | h
  · left; simp [h]
    try omega
  · right; left; simp [h, h']
    try omega
  · right; right; simp [h]
    try omega
theorem good_0_1 (a b c : Int) (d : ByteArray) (w : World) :
    Calls Try.prog 28 #[(Ev.mk 0 1 a b c d).val] w fun e w' => e = .returned (.bool true) ∧ Fr [] w w' := by
  dsimp only [Ev.val]
  go_enter Try.func28, Try.ntmps28
  go_wp2_with fail
  go_ret
  exact ⟨rfl, (Fr.refl _ _).alloc _⟩
theorem good_0_2 (a b c : Int) (d : ByteArray) (w : World) :
    Calls Try.prog 28 #[(Ev.mk 0 2 a b c d).val] w fun e w' => e = .returned (.bool (inR a)) ∧ Fr [] w w' := by
  dsimp only [Ev.val]
  rcases a_cases a with ⟨a1, a2⟩ | ⟨a1, a3, a2⟩ | ⟨a1, a3, a2⟩
  all_goals
    rw [a2]
    clear a2
    go_enter Try.func28, Try.ntmps28
    go_wp2_with fail
    go_ret
    exact ⟨rfl, (Fr.refl _ _).alloc _⟩
theorem good_0_3 (a b c : Int) (d : ByteArray) (w : World) :
    Calls Try.prog 28 #[(Ev.mk 0 3 a b c d).val] w fun e w' => e = .returned (.bool true) ∧ Fr [] w w' := by
  dsimp only [Ev.val]
  go_enter Try.func28, Try.ntmps28
  go_wp2_with fail
  go_ret
  exact ⟨rfl, (Fr.refl _ _).alloc _⟩
theorem good_0_4 (a b c : Int) (d : ByteArray) (w : World) :
    Calls Try.prog 28 #[(Ev.mk 0 4 a b c d).val] w fun e w' => e = .returned (.bool true) ∧ Fr [] w w' := by
  dsimp only [Ev.val]
  go_enter Try.func28, Try.ntmps28
  go_wp2_with fail
  go_ret
  exact ⟨rfl, (Fr.refl _ _).alloc _⟩
theorem good_0_5 (a b c : Int) (d : ByteArray) (w : World) :
    Calls Try.prog 28 #[(Ev.mk 0 5 a b c d).val] w fun e w' => e = .returned (.bool ((decide (b = 1) || inR a) && bOk b)) ∧ Fr [] w w' := by
  dsimp only [Ev.val]
  rcases a_cases a with ⟨a1, a2⟩ | ⟨a1, a3, a2⟩ | ⟨a1, a3, a2⟩
  all_goals
    rcases b_cases b with ⟨b1, b2⟩ | ⟨b1, b2⟩ | ⟨b1, b2⟩
    all_goals
      rw [a2, b2]
      clear a2 b2
      by_cases h1 : b = 1
      · subst h1
        try simp only [decide_true, Bool.true_or, Bool.and_true, Bool.and_false, Bool.true_and]
        first
          | (exfalso; revert b1; decide)
          | skip
        all_goals
          go_enter Try.func28, Try.ntmps28
          go_wp2_with fail
          go_ret
          exact ⟨rfl, (Fr.refl _ _).alloc _⟩
      · have h1b : (b != 1) = true := by simpa using h1
        have h1c : decide (b = 1) = false := decide_eq_false h1
        rw [h1c]
        clear h1c
        try simp only [Bool.false_or, Bool.and_true, Bool.and_false, Bool.true_and, Bool.false_and]
        go_enter Try.func28, Try.ntmps28
        go_wp2_with fail
        go_ret
        exact ⟨rfl, (Fr.refl _ _).alloc _⟩
theorem good_0_7 (a b c : Int) (d : ByteArray) (w : World) :
    Calls Try.prog 28 #[(Ev.mk 0 7 a b c d).val] w fun e w' => e = .returned (.bool (inR a && bOk b)) ∧ Fr [] w w' := by
  dsimp only [Ev.val]
  rcases a_cases a with ⟨a1, a2⟩ | ⟨a1, a3, a2⟩ | ⟨a1, a3, a2⟩
  all_goals
    rcases b_cases b with ⟨b1, b2⟩ | ⟨b1, b2⟩ | ⟨b1, b2⟩
    all_goals
      rw [a2, b2]
      clear a2 b2
      try simp only [Bool.and_true, Bool.and_false, Bool.true_and, Bool.false_and]
      go_enter Try.func28, Try.ntmps28
      go_wp2_with fail
      go_ret
      exact ⟨rfl, (Fr.refl _ _).alloc _⟩
theorem good_1_1 (a b c : Int) (d : ByteArray) (w : World) :
    Calls Try.prog 28 #[(Ev.mk 1 1 a b c d).val] w fun e w' => e = .returned (.bool (inR a)) ∧ Fr [] w w' := by
  dsimp only [Ev.val]
  rcases a_cases a with ⟨a1, a2⟩ | ⟨a1, a3, a2⟩ | ⟨a1, a3, a2⟩
  all_goals
    rw [a2]
    clear a2
    go_enter Try.func28, Try.ntmps28
    go_wp2_with fail
    go_ret
    exact ⟨rfl, (Fr.refl _ _).alloc _⟩
theorem good_1_2 (a b c : Int) (d : ByteArray) (w : World) :
    Calls Try.prog 28 #[(Ev.mk 1 2 a b c d).val] w fun e w' => e = .returned (.bool (inR a)) ∧ Fr [] w w' := by
  dsimp only [Ev.val]
  rcases a_cases a with ⟨a1, a2⟩ | ⟨a1, a3, a2⟩ | ⟨a1, a3, a2⟩
  all_goals
    rw [a2]
    clear a2
    go_enter Try.func28, Try.ntmps28
    go_wp2_with fail
    go_ret
    exact ⟨rfl, (Fr.refl _ _).alloc _⟩
theorem good_1_3 (a b c : Int) (d : ByteArray) (w : World) :
    Calls Try.prog 28 #[(Ev.mk 1 3 a b c d).val] w fun e w' => e = .returned (.bool (inR a)) ∧ Fr [] w w' := by
  dsimp only [Ev.val]
  rcases a_cases a with ⟨a1, a2⟩ | ⟨a1, a3, a2⟩ | ⟨a1, a3, a2⟩
  all_goals
    rw [a2]
    clear a2
    go_enter Try.func28, Try.ntmps28
    go_wp2_with fail
    go_ret
    exact ⟨rfl, (Fr.refl _ _).alloc _⟩
theorem good_1_4 (a b c : Int) (d : ByteArray) (w : World) :
    Calls Try.prog 28 #[(Ev.mk 1 4 a b c d).val] w fun e w' => e = .returned (.bool (inR a)) ∧ Fr [] w w' := by
  dsimp only [Ev.val]
  rcases a_cases a with ⟨a1, a2⟩ | ⟨a1, a3, a2⟩ | ⟨a1, a3, a2⟩
  all_goals
    rw [a2]
    clear a2
    go_enter Try.func28, Try.ntmps28
    go_wp2_with fail
    go_ret
    exact ⟨rfl, (Fr.refl _ _).alloc _⟩
theorem good_1_5 (a b c : Int) (d : ByteArray) (w : World) :
    Calls Try.prog 28 #[(Ev.mk 1 5 a b c d).val] w fun e w' => e = .returned (.bool (inR a && bOk b)) ∧ Fr [] w w' := by
  dsimp only [Ev.val]
  rcases a_cases a with ⟨a1, a2⟩ | ⟨a1, a3, a2⟩ | ⟨a1, a3, a2⟩
  all_goals
    rcases b_cases b with ⟨b1, b2⟩ | ⟨b1, b2⟩ | ⟨b1, b2⟩
    all_goals
      rw [a2, b2]
      clear a2 b2
      try simp only [Bool.and_true, Bool.and_false, Bool.true_and, Bool.false_and]
      go_enter Try.func28, Try.ntmps28
      go_wp2_with fail
      go_ret
      exact ⟨rfl, (Fr.refl _ _).alloc _⟩
theorem good_1_7 (a b c : Int) (d : ByteArray) (w : World) :
    Calls Try.prog 28 #[(Ev.mk 1 7 a b c d).val] w fun e w' => e = .returned (.bool (inR a && bOk b)) ∧ Fr [] w w' := by
  dsimp only [Ev.val]
  rcases a_cases a with ⟨a1, a2⟩ | ⟨a1, a3, a2⟩ | ⟨a1, a3, a2⟩
  all_goals
    rcases b_cases b with ⟨b1, b2⟩ | ⟨b1, b2⟩ | ⟨b1, b2⟩
    all_goals
      rw [a2, b2]
      clear a2 b2
      try simp only [Bool.and_true, Bool.and_false, Bool.true_and, Bool.false_and]
      go_enter Try.func28, Try.ntmps28
      go_wp2_with fail
      go_ret
      exact ⟨rfl, (Fr.refl _ _).alloc _⟩
theorem good_way (way kind a b c : Int) (d : ByteArray) (w : World) (h0 : way ≠ 0) (h1 : way ≠ 1) :
    Calls Try.prog 28 #[(Ev.mk way kind a b c d).val] w fun e w' => e = .returned (.bool false) ∧ Fr [] w w' := by
  dsimp only [Ev.val]
  have h0b : (way != 0) = true := by simpa using h0
  have h1b : (way != 1) = true := by simpa using h1
  go_enter Try.func28, Try.ntmps28
  go_wp2_with fail
  go_ret
  exact ⟨rfl, (Fr.refl _ _).alloc _⟩
theorem good_kind (way kind a b c : Int) (d : ByteArray) (w : World) (hw : way = 0 ∨ way = 1) (hk : ¬ kinds kind) :
    Calls Try.prog 28 #[(Ev.mk way kind a b c d).val] w fun e w' => e = .returned (.bool false) ∧ Fr [] w w' := by
  dsimp only [Ev.val]
  simp only [kinds, not_or] at hk
  obtain ⟨g1, g2, g3, g4, g5, g7⟩ := hk
  rcases hw with rfl | rfl
  all_goals
    rcases (by omega : kind < 1 ∨ kind = 6 ∨ (¬ kind < 1 ∧ 7 < kind)) with h | rfl | ⟨h, h'⟩
    · have hd : decide (kind < 1) = true := decide_eq_true h
      go_enter Try.func28, Try.ntmps28
      go_wp2_with fail
      go_ret
      exact ⟨rfl, (Fr.refl _ _).alloc _⟩
    · skip
      go_enter Try.func28, Try.ntmps28
      go_wp2_with fail
      go_ret
      exact ⟨rfl, (Fr.refl _ _).alloc _⟩
    · have hd : decide (kind < 1) = false := decide_eq_false h
      have hd2 : decide (7 < kind) = true := decide_eq_true h'
      go_enter Try.func28, Try.ntmps28
      go_wp2_with fail
      go_ret
      exact ⟨rfl, (Fr.refl _ _).alloc _⟩
theorem good_any (e : Ev) (w : World) : Calls Try.prog 28 #[e.val] w fun r w' => r = .returned (.bool (goodE e)) ∧ Fr [] w w' := by
  obtain ⟨way, kind, a, b, c, d⟩ := e
  by_cases hk : kinds kind
  · by_cases h0 : way = 0
    · subst h0
      rcases hk with rfl | rfl | rfl | rfl | rfl | rfl
      · exact good_0_1 a b c d w
      · exact good_0_2 a b c d w
      · exact good_0_3 a b c d w
      · exact good_0_4 a b c d w
      · exact good_0_5 a b c d w
      · exact good_0_7 a b c d w
    · by_cases h1 : way = 1
      · subst h1
        rcases hk with rfl | rfl | rfl | rfl | rfl | rfl
        · exact good_1_1 a b c d w
        · exact good_1_2 a b c d w
        · exact good_1_3 a b c d w
        · exact good_1_4 a b c d w
        · exact good_1_5 a b c d w
        · exact good_1_7 a b c d w
      · have : goodE ⟨way, kind, a, b, c, d⟩ = false := by simp [goodE, h0, h1]
        rw [this]; exact good_way way kind a b c d w h0 h1
  · have : goodE ⟨way, kind, a, b, c, d⟩ = false := by
      simp only [kinds, not_or] at hk
      obtain ⟨g1, g2, g3, g4, g5, g7⟩ := hk
      simp [goodE, g1, g2, g3, g4, g5, g7]
    rw [this]
    by_cases hw : way = 0 ∨ way = 1
    · exact good_kind way kind a b c d w hw hk
    · exact good_way way kind a b c d w (fun h => hw (.inl h)) (fun h => hw (.inr h))
end Go.Proofs.Ytjgmlnkbplgloaa
