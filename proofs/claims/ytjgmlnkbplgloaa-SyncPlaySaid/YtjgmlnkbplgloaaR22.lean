import Derived.Test.YtjgmlnkbplgloaaR21
import Derived.Test.YtjgmlnkbplgloaaS5
import Derived.Test.YtjgmlnkbplgloaaSClose
import Derived.ChangeKeysEq
namespace Go.Proofs.Ytjgmlnkbplgloaa
open Go.ChangeShapes Go.WideShapes Go.ChangeAt Go.RowKit Go.Deep Go.Joins
set_option linter.unusedVariables false
set_option linter.unusedSimpArgs false
set_option maxHeartbeats 4000000
set_option maxRecDepth 20000
noncomputable def iIntR : TypeInfo := (Try.prog.info? 3).getD default
theorem infoIntR : Try.prog.info? 3 = some iIntR := by kernel_rfl
theorem cellsIntR : Try.prog.cellsOf 3 = 1 := by kernel_rfl
theorem uPairR : Try.prog.underlying 23 = some (.array 2 3) := by kernel_rfl
/-- Two pairs of numbers are compared. -/
theorem eq_pair (a b c d : Int) (w : World) : (Op.equalIn 10000 23 (.agg #[.int .i64 a, .int .i64 b]) (.agg #[.int .i64 c, .int .i64 d])).run Try.prog w = .ok ((a == c) && (b == d)) w := by
  rw [run_equalIn_array w 9999 _ _ uPairR infoIntR, cellsIntR]
  have p0 : ∀ (x y : Value) (w : World), (part 3 #[x, y] 0).run Try.prog w = .ok x w := fun x y w => by simp [part, run_underlying uInt, go_sem]
  have p1 : ∀ (x y : Value) (w : World), (part 3 #[x, y] 1).run Try.prog w = .ok y w := fun x y w => by simp [part, run_underlying uInt, go_sem]
  simp only [show List.range 2 = [0, 1] from rfl, Op.eqItems, Sem.run_bind, Nat.mul_one, p0, p1, Result.andThen_ok, run_equalIn_int _ _ _ .i64 .i64 _ _ uInt]
  cases h : (a == c) <;> cases h2 : (b == d) <;> simp [h, h2, p1, run_equalIn_int _ _ _ .i64 .i64 _ _ uInt]
theorem IntArg.fr0 {w w' : World} {v : Value} {l : List Int} (h : IntArg w v l) (hf : Fr [] w w') : IntArg w' v l := by
  obtain ⟨o, cap, h1, h2, h3⟩ := h
  refine ⟨o, cap, h1, h2, fun i hi => ?_⟩
  obtain ⟨b, off, e, hb, hc⟩ := h3 i hi
  exact ⟨b, off, e, Nat.lt_of_lt_of_le hb hf.size, by rw [hf.cell (p := ⟨b, off + i, none⟩) hb (by simp)]; exact hc⟩
theorem play_out (N : Int) (dv : Value) (ds : List Int) (w : World) (hD : IntArg w dv ds) (hx : 400 < ds.length) :
    Calls Try.prog 6 #[.int .i64 N, dv] w fun e w' => e = .returned (.bool true) ∧ Fr [] w w' := by
  obtain ⟨o, cap, rfl, _, hl⟩ := hD
  clear hl
  have g : (400 : Int) < ds.length := by omega
  go_enter Try.func6, Try.ntmps6
  go_wp2_with fail
  refine (sane_any _).mono ?_
  rintro e w1 ⟨rfl, f1⟩
  go_wp2_with fail
  go_ret
  exact ⟨rfl, f1⟩
theorem play_in (N : Int) (dv : Value) (ds : List Int) (w : World) (hD : IntArg w dv ds) (hx : ¬ 400 < ds.length) :
    Calls Try.prog 6 #[.int .i64 N, dv] w fun e w' => e = .returned (.bool true) ∧ Fr [] w w' := by
  have hP := playq_any N dv ds w hD
  have hR := fun w' (hf : Fr [] w w') => rplay_any N dv ds w' (hD.fr0 hf)
  obtain ⟨⟨A, B, W, E⟩, hpp⟩ : ∃ R, playQ N ds = R := ⟨_, rfl⟩
  rw [hpp] at hP
  simp only [hpp] at hR
  replace hP := Lib.hid hP; replace hR := Lib.hid hR
  obtain ⟨o, cap, rfl, _, hl⟩ := hD
  have g : ¬ (400 : Int) < ds.length := by omega
  clear hl hpp
  go_enter Try.func6, Try.ntmps6
  go_wp2_with fail
  refine hP.out.mono ?_
  rintro e w1 ⟨rfl, f1⟩
  have F1 : Fr [] w w1 := f1
  obtain ⟨w2, hw2⟩ : ∃ x, w1.alloc (.cells #[.int .i64 A, .int .i64 B] 23) = x := ⟨_, rfl⟩
  have P2 := Pt.newA w1 23 #[.int .i64 A, .int .i64 B]
  rw [hw2] at P2
  have F2 : Fr [] w w2 := by rw [← hw2]; exact F1.alloc _
  have R2 := Lib.hid (hR.out w2 F2)
  obtain ⟨b1, hb1⟩ : ∃ x, w1.heap.size = x := ⟨_, rfl⟩
  rw [hb1] at P2
  replace P2 := Lib.hid P2; replace F2 := Lib.hid F2
  clear f1 F1 hP hR
  dsimp only
  go_wp2_with fail
  refine R2.out.mono ?_
  rintro e w3 ⟨rfl, F3⟩
  have P3 := F3.pt P2.out (by simp)
  have F23 := F2.out.trans F3
  obtain ⟨w4, hw4⟩ : ∃ x, w3.alloc (.cells #[.int .i64 A, .int .i64 B] 23) = x := ⟨_, rfl⟩
  have P4 := Pt.newA w3 23 #[.int .i64 A, .int .i64 B]
  rw [hw4] at P4
  have F4 : Fr [] w3 w4 := by rw [← hw4]; exact (Fr.refl [] w3).alloc _
  have P34 := F4.pt P3 (by simp)
  have F := F23.trans F4
  have S4 := Lib.hid (sane_any w4)
  have c3 := P34.cell
  have c4 := P4.cell
  have hW : (W == W) = true := by simp
  have hE : (E == E) = true := by simp
  replace F := Lib.hid F
  clear R2 F3 F23 F4 P3 P34 P4 P2 F2
  dsimp only
  go_wp2_with fail
  rw [eq_pair, show ((A == A) && (B == B)) = true by simp, Result.andThen_ok]
  go_wp2_with fail
  refine S4.out.mono ?_
  rintro e w5 ⟨rfl, f5⟩
  go_wp2
  go_ret
  exact ⟨rfl, F.out.trans f5⟩
theorem play_any (N : Int) (dv : Value) (ds : List Int) (w : World) (hD : IntArg w dv ds) :
    Calls Try.prog 6 #[.int .i64 N, dv] w fun e w' => e = .returned (.bool true) ∧ Fr [] w w' := by
  by_cases hx : 400 < ds.length
  · exact play_out N dv ds w hD hx
  · exact play_in N dv ds w hD hx
end Go.Proofs.Ytjgmlnkbplgloaa
