import Derived.Test.YtjgmlnkbplgloaaS12
namespace Go.Proofs.Ytjgmlnkbplgloaa
open Go.RowKit
set_option linter.unusedVariables false
set_option linter.unusedSimpArgs false
set_option maxHeartbeats 8000000
set_option maxRecDepth 20000
theorem asks_0_1 (a b c : Int) (d : ByteArray) (w : World) (q : Bool) (W : Hid (∀ w, Calls Try.prog 37 #[.int .i64 a] w fun e w' => e = .returned (.bool q) ∧ w = w')) :
    Calls Try.prog 24 #[(Ev.mk 0 1 a b c d).val] w fun e w' => e = .returned (.bool true) ∧ Fr [] w w' := by
  dsimp only [Ev.val]
  go_enter Try.func24, Try.ntmps24
  go_wp2_with fail
  go_ret
  exact ⟨rfl, (Fr.refl _ _).alloc _⟩
theorem asks_0_2 (a b c : Int) (d : ByteArray) (w : World) (q : Bool) (W : Hid (∀ w, Calls Try.prog 37 #[.int .i64 a] w fun e w' => e = .returned (.bool q) ∧ w = w')) :
    Calls Try.prog 24 #[(Ev.mk 0 2 a b c d).val] w fun e w' => e = .returned (.bool q) ∧ Fr [] w w' := by
  dsimp only [Ev.val]
  cases q
  all_goals
    go_enter Try.func24, Try.ntmps24
    go_wp2_with fail
    refine (W.out _).mono ?_
    rintro e w1 ⟨rfl, rfl⟩
    go_wp2_with fail
    go_ret
    exact ⟨rfl, (Fr.refl _ _).alloc _⟩
theorem asks_0_3 (a b c : Int) (d : ByteArray) (w : World) (q : Bool) (W : Hid (∀ w, Calls Try.prog 37 #[.int .i64 a] w fun e w' => e = .returned (.bool q) ∧ w = w')) :
    Calls Try.prog 24 #[(Ev.mk 0 3 a b c d).val] w fun e w' => e = .returned (.bool true) ∧ Fr [] w w' := by
  dsimp only [Ev.val]
  go_enter Try.func24, Try.ntmps24
  go_wp2_with fail
  go_ret
  exact ⟨rfl, (Fr.refl _ _).alloc _⟩
theorem asks_0_4 (a b c : Int) (d : ByteArray) (w : World) (q : Bool) (W : Hid (∀ w, Calls Try.prog 37 #[.int .i64 a] w fun e w' => e = .returned (.bool q) ∧ w = w')) :
    Calls Try.prog 24 #[(Ev.mk 0 4 a b c d).val] w fun e w' => e = .returned (.bool true) ∧ Fr [] w w' := by
  dsimp only [Ev.val]
  go_enter Try.func24, Try.ntmps24
  go_wp2_with fail
  go_ret
  exact ⟨rfl, (Fr.refl _ _).alloc _⟩
theorem asks_0_5 (a b c : Int) (d : ByteArray) (w : World) (q : Bool) (W : Hid (∀ w, Calls Try.prog 37 #[.int .i64 a] w fun e w' => e = .returned (.bool q) ∧ w = w')) :
    Calls Try.prog 24 #[(Ev.mk 0 5 a b c d).val] w fun e w' => e = .returned (.bool ((decide (b = 1) || q) && bOk b)) ∧ Fr [] w w' := by
  dsimp only [Ev.val]
  by_cases h1 : b = 1
  · subst h1
    have hR : ((decide ((1 : Int) = 1) || q) && bOk 1) = true := by simp [bOk]
    rw [hR]
    go_enter Try.func24, Try.ntmps24
    go_wp2_with fail
    go_ret
    exact ⟨rfl, (Fr.refl _ _).alloc _⟩
  · have h1b : (b != 1) = true := by simpa using h1
    have hR : ((decide (b = 1) || q) && bOk b) = (q && bOk b) := by simp [h1]
    rw [hR]
    clear hR
    cases q
    · rw [show (false && bOk b) = false from rfl]
      go_enter Try.func24, Try.ntmps24
      go_wp2_with fail
      refine (W.out _).mono ?_
      rintro e w1 ⟨rfl, rfl⟩
      go_wp2_with fail
      go_ret
      exact ⟨rfl, (Fr.refl _ _).alloc _⟩
    · rw [show (true && bOk b) = bOk b from rfl]
      rcases (by omega : b < 0 ∨ (0 ≤ b ∧ b ≤ 2) ∨ (0 ≤ b ∧ 2 < b)) with h | ⟨h, h'⟩ | ⟨h, h'⟩
      · have hB : bOk b = false := by unfold bOk; rw [decide_eq_false (by omega)]; rfl
        have hd : decide (0 ≤ b) = false := decide_eq_false (by omega)
        rw [hB]
        clear hB
        go_enter Try.func24, Try.ntmps24
        go_wp2_with fail
        refine (W.out _).mono ?_
        rintro e w1 ⟨rfl, rfl⟩
        go_wp2_with fail
        go_ret
        exact ⟨rfl, (Fr.refl _ _).alloc _⟩
      · have hB : bOk b = true := by unfold bOk; rw [decide_eq_true (by omega), decide_eq_true (by omega)]; rfl
        have hd : decide (0 ≤ b) = true := decide_eq_true h
        have hd2 : decide (b ≤ 2) = true := decide_eq_true h'
        rw [hB]
        clear hB
        go_enter Try.func24, Try.ntmps24
        go_wp2_with fail
        refine (W.out _).mono ?_
        rintro e w1 ⟨rfl, rfl⟩
        go_wp2_with fail
        go_ret
        exact ⟨rfl, (Fr.refl _ _).alloc _⟩
      · have hB : bOk b = false := by unfold bOk; rw [decide_eq_true (by omega), decide_eq_false (by omega)]; rfl
        have hd : decide (0 ≤ b) = true := decide_eq_true h
        have hd2 : decide (b ≤ 2) = false := decide_eq_false (by omega)
        rw [hB]
        clear hB
        go_enter Try.func24, Try.ntmps24
        go_wp2_with fail
        refine (W.out _).mono ?_
        rintro e w1 ⟨rfl, rfl⟩
        go_wp2_with fail
        go_ret
        exact ⟨rfl, (Fr.refl _ _).alloc _⟩
theorem asks_0_7 (a b c : Int) (d : ByteArray) (w : World) (q : Bool) (W : Hid (∀ w, Calls Try.prog 37 #[.int .i64 a] w fun e w' => e = .returned (.bool q) ∧ w = w')) :
    Calls Try.prog 24 #[(Ev.mk 0 7 a b c d).val] w fun e w' => e = .returned (.bool (q && bOk b)) ∧ Fr [] w w' := by
  dsimp only [Ev.val]
  cases q
  · rw [show (false && bOk b) = false from rfl]
    go_enter Try.func24, Try.ntmps24
    go_wp2_with fail
    refine (W.out _).mono ?_
    rintro e w1 ⟨rfl, rfl⟩
    go_wp2_with fail
    go_ret
    exact ⟨rfl, (Fr.refl _ _).alloc _⟩
  · rw [show (true && bOk b) = bOk b from rfl]
    rcases (by omega : b < 0 ∨ (0 ≤ b ∧ b ≤ 2) ∨ (0 ≤ b ∧ 2 < b)) with h | ⟨h, h'⟩ | ⟨h, h'⟩
    · have hB : bOk b = false := by unfold bOk; rw [decide_eq_false (by omega)]; rfl
      have hd : decide (0 ≤ b) = false := decide_eq_false (by omega)
      rw [hB]
      clear hB
      go_enter Try.func24, Try.ntmps24
      go_wp2_with fail
      refine (W.out _).mono ?_
      rintro e w1 ⟨rfl, rfl⟩
      go_wp2_with fail
      go_ret
      exact ⟨rfl, (Fr.refl _ _).alloc _⟩
    · have hB : bOk b = true := by unfold bOk; rw [decide_eq_true (by omega), decide_eq_true (by omega)]; rfl
      have hd : decide (0 ≤ b) = true := decide_eq_true h
      have hd2 : decide (b ≤ 2) = true := decide_eq_true h'
      rw [hB]
      clear hB
      go_enter Try.func24, Try.ntmps24
      go_wp2_with fail
      refine (W.out _).mono ?_
      rintro e w1 ⟨rfl, rfl⟩
      go_wp2_with fail
      go_ret
      exact ⟨rfl, (Fr.refl _ _).alloc _⟩
    · have hB : bOk b = false := by unfold bOk; rw [decide_eq_true (by omega), decide_eq_false (by omega)]; rfl
      have hd : decide (0 ≤ b) = true := decide_eq_true h
      have hd2 : decide (b ≤ 2) = false := decide_eq_false (by omega)
      rw [hB]
      clear hB
      go_enter Try.func24, Try.ntmps24
      go_wp2_with fail
      refine (W.out _).mono ?_
      rintro e w1 ⟨rfl, rfl⟩
      go_wp2_with fail
      go_ret
      exact ⟨rfl, (Fr.refl _ _).alloc _⟩
theorem asks_1_1 (a b c : Int) (d : ByteArray) (w : World) (q : Bool) (W : Hid (∀ w, Calls Try.prog 37 #[.int .i64 a] w fun e w' => e = .returned (.bool q) ∧ w = w')) :
    Calls Try.prog 24 #[(Ev.mk 1 1 a b c d).val] w fun e w' => e = .returned (.bool q) ∧ Fr [] w w' := by
  dsimp only [Ev.val]
  cases q
  all_goals
    go_enter Try.func24, Try.ntmps24
    go_wp2_with fail
    refine (W.out _).mono ?_
    rintro e w1 ⟨rfl, rfl⟩
    go_wp2_with fail
    go_ret
    exact ⟨rfl, (Fr.refl _ _).alloc _⟩
theorem asks_1_2 (a b c : Int) (d : ByteArray) (w : World) (q : Bool) (W : Hid (∀ w, Calls Try.prog 37 #[.int .i64 a] w fun e w' => e = .returned (.bool q) ∧ w = w')) :
    Calls Try.prog 24 #[(Ev.mk 1 2 a b c d).val] w fun e w' => e = .returned (.bool q) ∧ Fr [] w w' := by
  dsimp only [Ev.val]
  cases q
  all_goals
    go_enter Try.func24, Try.ntmps24
    go_wp2_with fail
    refine (W.out _).mono ?_
    rintro e w1 ⟨rfl, rfl⟩
    go_wp2_with fail
    go_ret
    exact ⟨rfl, (Fr.refl _ _).alloc _⟩
theorem asks_1_3 (a b c : Int) (d : ByteArray) (w : World) (q : Bool) (W : Hid (∀ w, Calls Try.prog 37 #[.int .i64 a] w fun e w' => e = .returned (.bool q) ∧ w = w')) :
    Calls Try.prog 24 #[(Ev.mk 1 3 a b c d).val] w fun e w' => e = .returned (.bool q) ∧ Fr [] w w' := by
  dsimp only [Ev.val]
  cases q
  all_goals
    go_enter Try.func24, Try.ntmps24
    go_wp2_with fail
    refine (W.out _).mono ?_
    rintro e w1 ⟨rfl, rfl⟩
    go_wp2_with fail
    go_ret
    exact ⟨rfl, (Fr.refl _ _).alloc _⟩
theorem asks_1_4 (a b c : Int) (d : ByteArray) (w : World) (q : Bool) (W : Hid (∀ w, Calls Try.prog 37 #[.int .i64 a] w fun e w' => e = .returned (.bool q) ∧ w = w')) :
    Calls Try.prog 24 #[(Ev.mk 1 4 a b c d).val] w fun e w' => e = .returned (.bool q) ∧ Fr [] w w' := by
  dsimp only [Ev.val]
  cases q
  all_goals
    go_enter Try.func24, Try.ntmps24
    go_wp2_with fail
    refine (W.out _).mono ?_
    rintro e w1 ⟨rfl, rfl⟩
    go_wp2_with fail
    go_ret
    exact ⟨rfl, (Fr.refl _ _).alloc _⟩
theorem asks_1_5 (a b c : Int) (d : ByteArray) (w : World) (q : Bool) (W : Hid (∀ w, Calls Try.prog 37 #[.int .i64 a] w fun e w' => e = .returned (.bool q) ∧ w = w')) :
    Calls Try.prog 24 #[(Ev.mk 1 5 a b c d).val] w fun e w' => e = .returned (.bool (q && bOk b)) ∧ Fr [] w w' := by
  dsimp only [Ev.val]
  cases q
  · rw [show (false && bOk b) = false from rfl]
    go_enter Try.func24, Try.ntmps24
    go_wp2_with fail
    refine (W.out _).mono ?_
    rintro e w1 ⟨rfl, rfl⟩
    go_wp2_with fail
    go_ret
    exact ⟨rfl, (Fr.refl _ _).alloc _⟩
  · rw [show (true && bOk b) = bOk b from rfl]
    rcases (by omega : b < 0 ∨ (0 ≤ b ∧ b ≤ 2) ∨ (0 ≤ b ∧ 2 < b)) with h | ⟨h, h'⟩ | ⟨h, h'⟩
    · have hB : bOk b = false := by unfold bOk; rw [decide_eq_false (by omega)]; rfl
      have hd : decide (0 ≤ b) = false := decide_eq_false (by omega)
      rw [hB]
      clear hB
      go_enter Try.func24, Try.ntmps24
      go_wp2_with fail
      refine (W.out _).mono ?_
      rintro e w1 ⟨rfl, rfl⟩
      go_wp2_with fail
      go_ret
      exact ⟨rfl, (Fr.refl _ _).alloc _⟩
    · have hB : bOk b = true := by unfold bOk; rw [decide_eq_true (by omega), decide_eq_true (by omega)]; rfl
      have hd : decide (0 ≤ b) = true := decide_eq_true h
      have hd2 : decide (b ≤ 2) = true := decide_eq_true h'
      rw [hB]
      clear hB
      go_enter Try.func24, Try.ntmps24
      go_wp2_with fail
      refine (W.out _).mono ?_
      rintro e w1 ⟨rfl, rfl⟩
      go_wp2_with fail
      go_ret
      exact ⟨rfl, (Fr.refl _ _).alloc _⟩
    · have hB : bOk b = false := by unfold bOk; rw [decide_eq_true (by omega), decide_eq_false (by omega)]; rfl
      have hd : decide (0 ≤ b) = true := decide_eq_true h
      have hd2 : decide (b ≤ 2) = false := decide_eq_false (by omega)
      rw [hB]
      clear hB
      go_enter Try.func24, Try.ntmps24
      go_wp2_with fail
      refine (W.out _).mono ?_
      rintro e w1 ⟨rfl, rfl⟩
      go_wp2_with fail
      go_ret
      exact ⟨rfl, (Fr.refl _ _).alloc _⟩
theorem asks_1_7 (a b c : Int) (d : ByteArray) (w : World) (q : Bool) (W : Hid (∀ w, Calls Try.prog 37 #[.int .i64 a] w fun e w' => e = .returned (.bool q) ∧ w = w')) :
    Calls Try.prog 24 #[(Ev.mk 1 7 a b c d).val] w fun e w' => e = .returned (.bool (q && bOk b)) ∧ Fr [] w w' := by
  dsimp only [Ev.val]
  cases q
  · rw [show (false && bOk b) = false from rfl]
    go_enter Try.func24, Try.ntmps24
    go_wp2_with fail
    refine (W.out _).mono ?_
    rintro e w1 ⟨rfl, rfl⟩
    go_wp2_with fail
    go_ret
    exact ⟨rfl, (Fr.refl _ _).alloc _⟩
  · rw [show (true && bOk b) = bOk b from rfl]
    rcases (by omega : b < 0 ∨ (0 ≤ b ∧ b ≤ 2) ∨ (0 ≤ b ∧ 2 < b)) with h | ⟨h, h'⟩ | ⟨h, h'⟩
    · have hB : bOk b = false := by unfold bOk; rw [decide_eq_false (by omega)]; rfl
      have hd : decide (0 ≤ b) = false := decide_eq_false (by omega)
      rw [hB]
      clear hB
      go_enter Try.func24, Try.ntmps24
      go_wp2_with fail
      refine (W.out _).mono ?_
      rintro e w1 ⟨rfl, rfl⟩
      go_wp2_with fail
      go_ret
      exact ⟨rfl, (Fr.refl _ _).alloc _⟩
    · have hB : bOk b = true := by unfold bOk; rw [decide_eq_true (by omega), decide_eq_true (by omega)]; rfl
      have hd : decide (0 ≤ b) = true := decide_eq_true h
      have hd2 : decide (b ≤ 2) = true := decide_eq_true h'
      rw [hB]
      clear hB
      go_enter Try.func24, Try.ntmps24
      go_wp2_with fail
      refine (W.out _).mono ?_
      rintro e w1 ⟨rfl, rfl⟩
      go_wp2_with fail
      go_ret
      exact ⟨rfl, (Fr.refl _ _).alloc _⟩
    · have hB : bOk b = false := by unfold bOk; rw [decide_eq_true (by omega), decide_eq_false (by omega)]; rfl
      have hd : decide (0 ≤ b) = true := decide_eq_true h
      have hd2 : decide (b ≤ 2) = false := decide_eq_false (by omega)
      rw [hB]
      clear hB
      go_enter Try.func24, Try.ntmps24
      go_wp2_with fail
      refine (W.out _).mono ?_
      rintro e w1 ⟨rfl, rfl⟩
      go_wp2_with fail
      go_ret
      exact ⟨rfl, (Fr.refl _ _).alloc _⟩
theorem asks_way (way kind a b c : Int) (d : ByteArray) (w : World) (h0 : way ≠ 0) (h1 : way ≠ 1) :
    Calls Try.prog 24 #[(Ev.mk way kind a b c d).val] w fun e w' => e = .returned (.bool false) ∧ Fr [] w w' := by
  dsimp only [Ev.val]
  have h0b : (way == 0) = false := by simpa using h0
  have h1b : (way == 1) = false := by simpa using h1
  by_cases hk : kinds kind
  · rcases hk with rfl | rfl | rfl | rfl | rfl | rfl
    all_goals
      by_cases hb1 : b = 1
      all_goals
        go_enter Try.func24, Try.ntmps24
        go_wp2_with fail
        go_ret
        exact ⟨rfl, (Fr.refl _ _).alloc _⟩
  · simp only [kinds, not_or] at hk
    obtain ⟨g1, g2, g3, g4, g5, g7⟩ := hk
    go_enter Try.func24, Try.ntmps24
    go_wp2_with fail
    go_ret
    exact ⟨rfl, (Fr.refl _ _).alloc _⟩
theorem asks_kind (way kind a b c : Int) (d : ByteArray) (w : World) (hk : ¬ kinds kind) :
    Calls Try.prog 24 #[(Ev.mk way kind a b c d).val] w fun e w' => e = .returned (.bool false) ∧ Fr [] w w' := by
  dsimp only [Ev.val]
  simp only [kinds, not_or] at hk
  obtain ⟨g1, g2, g3, g4, g5, g7⟩ := hk
  go_enter Try.func24, Try.ntmps24
  go_wp2_with fail
  go_ret
  exact ⟨rfl, (Fr.refl _ _).alloc _⟩
theorem asks_any (e : Ev) (w : World) : Calls Try.prog 24 #[e.val] w fun r w' => r = .returned (.bool (goodE e)) ∧ Fr [] w w' := by
  obtain ⟨way, kind, a, b, c, d⟩ := e
  have W : Hid (∀ w, Calls Try.prog 37 #[.int .i64 a] w fun e w' => e = .returned (.bool (inR a)) ∧ w = w') := fun w => within_any a w
  by_cases hk : kinds kind
  · by_cases h0 : way = 0
    · subst h0
      rcases hk with rfl | rfl | rfl | rfl | rfl | rfl
      · exact asks_0_1 a b c d w _ W
      · exact asks_0_2 a b c d w _ W
      · exact asks_0_3 a b c d w _ W
      · exact asks_0_4 a b c d w _ W
      · exact asks_0_5 a b c d w _ W
      · exact asks_0_7 a b c d w _ W
    · by_cases h1 : way = 1
      · subst h1
        rcases hk with rfl | rfl | rfl | rfl | rfl | rfl
        · exact asks_1_1 a b c d w _ W
        · exact asks_1_2 a b c d w _ W
        · exact asks_1_3 a b c d w _ W
        · exact asks_1_4 a b c d w _ W
        · exact asks_1_5 a b c d w _ W
        · exact asks_1_7 a b c d w _ W
      · have : goodE ⟨way, kind, a, b, c, d⟩ = false := by simp [goodE, h0, h1]
        rw [this]; exact asks_way way kind a b c d w h0 h1
  · have : goodE ⟨way, kind, a, b, c, d⟩ = false := by
      simp only [kinds, not_or] at hk
      obtain ⟨g1, g2, g3, g4, g5, g7⟩ := hk
      simp [goodE, g1, g2, g3, g4, g5, g7]
    rw [this]; exact asks_kind way kind a b c d w hk
end Go.Proofs.Ytjgmlnkbplgloaa
