import Derived.Test.YtjgmlnkbplgloaaS4
namespace Go.Proofs.Ytjgmlnkbplgloaa
open Go.RowKit
set_option linter.unusedVariables false
set_option linter.unusedSimpArgs false
set_option maxHeartbeats 4000000
set_option maxRecDepth 20000
def s0 : SS := ⟨true, true, 1, 1, 1, 0, [], [], false, 0, 0, false, 0, 0⟩
def s1 : SS := ⟨true, true, 2, 1, 1, 0, [], [1], false, 0, 0, false, 0, 0⟩
def s2 : SS := ⟨true, true, 3, 1, 1, 0, [], [1, 2], false, 0, 0, false, 0, 0⟩
def s3 : SS := ⟨true, true, 3, 3, 1, 0, [], [], false, 0, 0, false, 0, 0⟩
theorem sane_any (w : World) : Calls Try.prog 8 #[] w fun e w' => e = .returned (.bool true) ∧ Fr [] w w' := by
  have h1 := Lib.hid (new_ok [w.heap.size] true 1 w (by omega) (by simp))
  go_enter Try.func8, Try.ntmps8
  go_wp2_with fail
  refine h1.out.mono ?_
  rintro e w1 ⟨rfl, S1, f1⟩
  obtain ⟨b, hb⟩ : ∃ x, w.heap.size = x := ⟨_, rfl⟩
  rw [hb] at S1
  simp only [hb]
  have T1 : SM [b] w1 b s0 := S1
  have C1 := on_dm b s0 0 0 ByteArray.empty w1 T1 rfl (by show (0 : Nat) < 900000; omega) (by show (0 : Int) ≤ 1 ∧ (1 : Int) < 999999; omega) rfl rfl
  dsimp only [Ev.val, s0] at C1
  replace C1 := Lib.hid C1; replace S1 := Lib.hid S1; replace T1 := Lib.hid T1; replace f1 := Lib.hid f1
  go_wp2_with fail
  refine C1.out.mono ?_
  rintro e w2 ⟨⟨v2, rfl, _⟩, S2, f2⟩
  have T2 : SM [b] w2 b s1 := S2
  have C2 := on_dm b s1 0 0 ByteArray.empty w2 T2 rfl (by show (1 : Nat) < 900000; omega) (by show (0 : Int) ≤ 2 ∧ (2 : Int) < 999999; omega) rfl rfl
  dsimp only [Ev.val, s1] at C2
  have F2 : Fr [] w w2 := f1.out.step f2 (by intro x hx; simp at hx; omega)
  replace C2 := Lib.hid C2; replace T2 := Lib.hid T2; replace F2 := Lib.hid F2
  clear S2 f2
  go_wp2_with fail
  refine C2.out.mono ?_
  rintro e w3 ⟨⟨v3, rfl, _⟩, S3, f3⟩
  have T3 : SM [b] w3 b s2 := S3
  have C3 := on_uc b s2 2 0 0 ByteArray.empty w3 T3 rfl ⟨by show (0 : Nat) < 1000000; omega, by show (2 : Nat) < 1000000; omega⟩ (by omega) (by show (2 : Int) ∈ [1, 2]; simp) rfl rfl
  dsimp only [Ev.val] at C3
  have F3 : Fr [] w w3 := F2.out.step f3 (by intro x hx; simp at hx; omega)
  replace C3 := Lib.hid C3; replace T3 := Lib.hid T3; replace F3 := Lib.hid F3
  clear S3 f3
  go_wp2_with fail
  refine C3.out.mono ?_
  rintro e w4 ⟨⟨v4, rfl, _⟩, S4, f4⟩
  have hs3 : SS.pruned { s2 with a := 2 + 1 } = s3 := by simp [SS.pruned, s2, s3, keep, over]
  rw [hs3] at S4
  have F4 : Fr [] w w4 := F3.out.step f4 (by intro x hx; simp at hx; omega)
  have C4 := numbers_any b s3 w4 S4 rfl
  dsimp only [s3] at C4
  replace C4 := Lib.hid C4; replace F4 := Lib.hid F4
  clear S4 f4 hs3
  go_wp2_with fail
  refine C4.out.mono ?_
  rintro e w5 ⟨rfl, f5⟩
  have F5 := F4.out.trans f5
  clear f5
  go_wp2
  go_ret
  exact ⟨rfl, F5⟩
theorem on_nil (ev : Ev) (w : World) : Calls Try.prog 13 #[.pointer none, ev.val] w fun e w' => e = .returned (.tuple #[.slice none 0 0, .int .i64 1]) ∧ Fr [] w w' := by
  have N := Lib.hid none_nil
  obtain ⟨way, kind, a, b, c, d⟩ := ev
  dsimp only [Ev.val]
  go_enter Try.func13, Try.ntmps13
  go_wp2_with fail
  refine (N.out _).mono ?_
  rintro e w1 ⟨rfl, rfl⟩
  go_wp2
  go_ret2
  exact ⟨rfl, (Fr.refl _ _).alloc _⟩
theorem numbers_nil (w : World) : Calls Try.prog 11 #[.pointer none] w fun e w' => e = .returned (.tuple #[.int .i64 0, .int .i64 0, .int .i64 0]) ∧ w = w' := by
  have N := Lib.hid none_nil
  go_enter Try.func11, Try.ntmps11
  go_wp2_with fail
  refine (N.out _).mono ?_
  rintro e w1 ⟨rfl, rfl⟩
  go_wp2
  exact bodyPost_ret (v := .tuple #[.int .i64 0, .int .i64 0, .int .i64 0]) (by simp [results, Try.results11, go_sem]) rfl ⟨rfl, rfl⟩
theorem major_nil (w : World) : Calls Try.prog 20 #[.pointer none] w fun e w' => e = .returned (.int .i64 0) ∧ w = w' := by
  have N := Lib.hid none_nil
  go_enter Try.func20, Try.ntmps20
  go_wp2_with fail
  refine (N.out _).mono ?_
  rintro e w1 ⟨rfl, rfl⟩
  go_wp2
  go_ret
  exact ⟨rfl, rfl⟩
theorem waits_nil (w : World) : Calls Try.prog 14 #[.pointer none] w fun e w' => e = .returned (.bool false) ∧ w = w' := by
  have N := Lib.hid none_nil
  go_enter Try.func14, Try.ntmps14
  go_wp2_with fail
  refine (N.out _).mono ?_
  rintro e w1 ⟨rfl, rfl⟩
  go_wp2
  go_ret
  exact ⟨rfl, rfl⟩
theorem asked_nil (w : World) : Calls Try.prog 12 #[.pointer none] w fun e w' => e = .returned (.tuple #[.int .i64 0, .int .i64 0, .int .i64 1]) ∧ w = w' := by
  have N := Lib.hid none_nil
  go_enter Try.func12, Try.ntmps12
  go_wp2_with fail
  refine (N.out _).mono ?_
  rintro e w1 ⟨rfl, rfl⟩
  go_wp2
  exact bodyPost_ret (v := .tuple #[.int .i64 0, .int .i64 0, .int .i64 1]) (by simp [results, Try.results12, go_sem]) rfl ⟨rfl, rfl⟩
theorem copy_nil (w : World) : Calls Try.prog 16 #[.pointer none] w fun e w' => e = .returned (.pointer none) ∧ w = w' := by
  have N := Lib.hid none_nil
  go_enter Try.func16, Try.ntmps16
  go_wp2_with fail
  refine (N.out _).mono ?_
  rintro e w1 ⟨rfl, rfl⟩
  go_wp2
  go_ret
  exact ⟨rfl, rfl⟩
theorem nothing_any (ev : Ev) (w : World) : Calls Try.prog 5 #[ev.val] w fun e w' => e = .returned (.bool true) ∧ Fr [] w w' := by
  have H1 := Lib.hid (on_nil ev); have H2 := Lib.hid numbers_nil; have H3 := Lib.hid major_nil; have H4 := Lib.hid waits_nil; have H5 := Lib.hid asked_nil; have H6 := Lib.hid copy_nil; have H7 := Lib.hid sane_any
  obtain ⟨way, kind, a, b, c, d⟩ := ev
  dsimp only [Ev.val] at H1 ⊢
  obtain ⟨wb, hwb⟩ : ∃ x, w.alloc (.cells #[.int .i64 way, .int .i64 kind, .int .i64 a, .int .i64 b, .int .i64 c, .string d] TEv) = x := ⟨_, rfl⟩
  have PB := Pt.newA w TEv #[.int .i64 way, .int .i64 kind, .int .i64 a, .int .i64 b, .int .i64 c, .string d]
  rw [hwb] at PB
  have FB : Fr [] w wb := by rw [← hwb]; exact (Fr.refl [] w).alloc _
  obtain ⟨bx, hbx⟩ : ∃ x, w.heap.size = x := ⟨_, rfl⟩
  rw [hbx] at PB
  have cb := PB.cell
  replace FB := Lib.hid FB; replace PB := Lib.hid PB
  go_enter Try.func5, Try.ntmps5
  go_wp2_with fail
  refine (H1.out _).mono ?_
  rintro e w1 ⟨rfl, f1⟩
  have F1 := FB.out.trans f1
  replace F1 := Lib.hid F1
  clear f1 cb
  go_wp2_with fail
  refine (H2.out _).mono ?_
  rintro e w2 ⟨rfl, rfl⟩
  go_wp2_with fail
  refine (H3.out _).mono ?_
  rintro e w2 ⟨rfl, rfl⟩
  go_wp2_with fail
  refine (H4.out _).mono ?_
  rintro e w2 ⟨rfl, rfl⟩
  go_wp2_with fail
  refine (H5.out _).mono ?_
  rintro e w2 ⟨rfl, rfl⟩
  go_wp2_with fail
  refine (H6.out _).mono ?_
  rintro e w2 ⟨rfl, rfl⟩
  go_wp2_with fail
  refine (H7.out _).mono ?_
  rintro e w3 ⟨rfl, f3⟩
  go_wp2
  go_ret
  exact ⟨rfl, F1.out.trans f3⟩
end Go.Proofs.Ytjgmlnkbplgloaa
