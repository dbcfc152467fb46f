import Derived.Test.YtnggimkkjdipmaaTB27
namespace Go.Proofs.Ytnggimkkjdipmaa
open Go.RowKit
set_option linter.unusedVariables false
set_option linter.unusedSimpArgs false
set_option maxHeartbeats 16000000
set_option maxRecDepth 100000
theorem cf_prod1 : ∀ W args, (callFunc 58 args).run Try.prog W = .ok (.enter 58 args) W := by
  intro W args
  have hb : Try.f58.body.isNone = false := by kernel_rfl
  simp [callFunc, go_sem, Try.func58]
  rw [if_neg (by decide +kernel), if_neg (fun h => by rw [h] at hb; cases hb)]
theorem cf_prod2 : ∀ W args, (callFunc 60 args).run Try.prog W = .ok (.enter 60 args) W := by
  intro W args
  have hb : Try.f60.body.isNone = false := by kernel_rfl
  simp [callFunc, go_sem, Try.func60]
  rw [if_neg (by decide +kernel), if_neg (fun h => by rw [h] at hb; cases hb)]
theorem prod1_any (U : Tb) (r : Value) (b : Nat) (x : Int × Int) (w : World) (hP : Pt w b TTab [.int .i64 U.st, .int .i64 U.ev, .int .i64 U.sr, r]) :
    Calls Try.prog 58 #[.agg #[.int .i64 x.1, .int .i64 x.2], .pointer (some ⟨b, 0, none⟩)] w fun e w' => e = .returned (.bool (decide (x.2 < 0) || decide (U.ev ≤ x.2))) ∧ Fr [] w w' := by
  obtain ⟨x1, x2⟩ := x
  dsimp only
  obtain ⟨w1, hw1⟩ : ∃ y, w.alloc (.cells #[.int .i64 x1, .int .i64 x2] 93) = y := ⟨_, rfl⟩
  have P1 := Pt.newA w 93 #[.int .i64 x1, .int .i64 x2]
  rw [hw1] at P1
  have F1 : Fr [] w w1 := by rw [← hw1]; exact (Fr.refl [] w).alloc _
  have Q1 := F1.pt hP (by simp)
  have k1 := P1.cell
  have q1 := Q1.cell
  obtain ⟨bx, hbx⟩ : ∃ y, w.heap.size = y := ⟨_, rfl⟩
  rw [hbx] at k1
  replace P1 := Lib.hid P1; replace F1 := Lib.hid F1; replace Q1 := Lib.hid Q1
  clear hP
  by_cases h : x2 < 0
  · rw [decide_eq_true h, Bool.true_or]
    go_enter Try.func58, Try.ntmps58
    go_wp2_with fail
    go_ret
    exact ⟨rfl, F1.out⟩
  · rw [decide_eq_false h, Bool.false_or]
    go_enter Try.func58, Try.ntmps58
    go_wp2_with fail
    go_ret
    exact ⟨rfl, F1.out⟩
theorem prod2_any (r1 r2 : Int) (b : Nat) (x : Int × Int) (w : World) (hP : Pt w b TRow [.int .i64 r1, .int .i64 r2]) :
    Calls Try.prog 60 #[.agg #[.int .i64 x.1, .int .i64 x.2], .pointer (some ⟨b, 0, none⟩)] w fun e w' => e = .returned (.bool (x.1 == r2)) ∧ Fr [] w w' := by
  obtain ⟨x1, x2⟩ := x
  dsimp only
  obtain ⟨w1, hw1⟩ : ∃ y, w.alloc (.cells #[.int .i64 x1, .int .i64 x2] 93) = y := ⟨_, rfl⟩
  have P1 := Pt.newA w 93 #[.int .i64 x1, .int .i64 x2]
  rw [hw1] at P1
  have F1 : Fr [] w w1 := by rw [← hw1]; exact (Fr.refl [] w).alloc _
  have Q1 := F1.pt hP (by simp)
  have k1 := P1.cell
  have q1 := Q1.cell
  obtain ⟨bx, hbx⟩ : ∃ y, w.heap.size = y := ⟨_, rfl⟩
  rw [hbx] at k1
  replace P1 := Lib.hid P1; replace F1 := Lib.hid F1; replace Q1 := Lib.hid Q1
  clear hP
  go_enter Try.func60, Try.ntmps60
  go_wp2_with fail
  go_ret
  exact ⟨rfl, F1.out⟩
end Go.Proofs.Ytnggimkkjdipmaa
