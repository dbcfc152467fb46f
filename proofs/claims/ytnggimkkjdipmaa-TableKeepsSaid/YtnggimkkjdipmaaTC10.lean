import Derived.Test.YtnggimkkjdipmaaTB26
import Derived.ChangeKeysEq
namespace Go.Proofs.Ytnggimkkjdipmaa
open Go.RowKit
set_option linter.unusedVariables false
set_option linter.unusedSimpArgs false
set_option maxHeartbeats 16000000
set_option maxRecDepth 100000
theorem cellsIntA : Try.prog.cellsOf 3 = 1 := by kernel_rfl
theorem uArr2 : Try.prog.underlying 93 = some (.array 2 3) := by kernel_rfl
theorem eq_arr2 (a b c d : Int) (w : World) : (Op.equalIn 10000 93 (.agg #[.int .i64 a, .int .i64 b]) (.agg #[.int .i64 c, .int .i64 d])).run Try.prog w = .ok ((a == c) && (b == d)) w := by
  rw [run_equalIn_array w 9999 _ _ uArr2 infoInt, cellsIntA]
  have p0 : ∀ (x y : Value) (w : World), (part 3 #[x, y] 0).run Try.prog w = .ok x w := fun x y w => by simp [part, run_underlying uInt, go_sem]
  have p1 : ∀ (x y : Value) (w : World), (part 3 #[x, y] 1).run Try.prog w = .ok y w := fun x y w => by simp [part, run_underlying uInt, go_sem]
  simp only [show List.range 2 = [0, 1] from rfl, Op.eqItems, Sem.run_bind, Nat.mul_one, p0, p1, Result.andThen_ok, run_equalIn_int _ _ _ .i64 .i64 _ _ uInt]
  cases h : (a == c) <;> cases h2 : (b == d) <;> simp [h, h2, p1, run_equalIn_int _ _ _ .i64 .i64 _ _ uInt]
/-- Pairs, of a list and itself. -/
theorem pairs_same (v1 v2 : Value) (l : List (Int × Int)) (w : World) (h1 : PIn w v1 l) (h2 : PIn w v2 l) (hn : l.length ≤ 100000) :
    Calls Try.prog 37 #[v1, v2] w fun e w' => e = .returned (.bool true) ∧ Fr [] w w' := by
  obtain ⟨o1, c1, rfl, hl1⟩ := h1
  obtain ⟨o2, c2, rfl, hl2⟩ := h2
  replace hl1 := Lib.hid hl1; replace hl2 := Lib.hid hl2
  go_enter Try.func37, Try.ntmps37
  go_wp2_with fail
  go_loopg [5] (l.length + 1) (fun k v5 wr => ∃ i : Nat, i ≤ l.length ∧ k + i = l.length + 1 ∧ v5 = .int .i64 i ∧ Fr [] w wr)
  case atStart => exact ⟨0, by omega, by omega, rfl, Fr.refl _ _⟩
  case round =>
    obtain ⟨i, hi, hk, rfl, hF⟩ := hrel
    obtain ⟨wi, rfl⟩ : ∃ x : World, x = wr := ⟨_, rfl⟩
    by_cases hlt : i < l.length
    · have hltI : (i : Int) < l.length := by omega
      obtain ⟨B1, f1, rfl, hB1, a1, a2⟩ := hl1.out i hlt
      obtain ⟨B2, f2, rfl, hB2, d1, d2⟩ := hl2.out i hlt
      have x1 := hF.cell (p := ⟨B1, f1 + i * 2, none⟩) hB1 (by simp)
      have x2 := hF.cell (p := ⟨B1, f1 + i * 2 + 1, none⟩) hB1 (by simp)
      have y1 := hF.cell (p := ⟨B2, f2 + i * 2, none⟩) hB2 (by simp)
      have y2 := hF.cell (p := ⟨B2, f2 + i * 2 + 1, none⟩) hB2 (by simp)
      rw [a1] at x1
      rw [a2] at x2
      rw [d1] at y1
      rw [d2] at y2
      obtain ⟨⟨z1, z2⟩, hz⟩ : ∃ x, l[i] = x := ⟨_, rfl⟩
      rw [hz] at x1 x2 y1 y2
      dsimp only at x1 x2 y1 y2
      have heq := fun W => eq_arr2 z1 z2 z1 z2 W
      simp only [beq_self_eq_true, Bool.and_self] at heq
      clear a1 a2 d1 d2
      replace hz := Lib.hid hz; replace hF := Lib.hid hF
      go_wp2_with fail
      go_quiet (fail)
      go_wp2_with fail
      go_roundg (gk - 1)
      case measure => omega
      case rel => exact ⟨i + 1, by omega, by omega, by go_num, hF.out.drewN _⟩
    · have hltI : ¬ (i : Int) < l.length := by omega
      replace hF := Lib.hid hF
      go_wp2_with fail
      go_ret
      exact ⟨rfl, hF.out⟩
end Go.Proofs.Ytnggimkkjdipmaa
