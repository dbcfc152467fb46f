import Derived.Test.YtnggimkkjdipmaaTC3
namespace Go.Proofs.Ytnggimkkjdipmaa
open Go.RowKit
set_option linter.unusedVariables false
set_option linter.unusedSimpArgs false
set_option maxHeartbeats 16000000
set_option maxRecDepth 100000
theorem Reach_any (T : Tb) (v : Value) (w : World) (hT : TIn w v T) :
    Calls Try.prog 33 #[v] w fun e w' => ∃ ov, e = .returned (.tuple #[ov, .int .i64 (reachF T).2]) ∧ NIn w' ov (reachF T).1 ∧ Fr [] w w' := by
  obtain ⟨r, rfl, hR⟩ := hT
  rw [show T.val r = .agg #[.int .i64 T.st, .int .i64 T.ev, .int .i64 T.sr, r] from rfl]
  have VA : ∀ W, Fr [] w W → Calls Try.prog 19 #[.agg #[.int .i64 T.st, .int .i64 T.ev, .int .i64 T.sr, r]] W fun e w' => e = .returned (.bool (validT T)) ∧ Fr [] W w' := fun W f => valid_any T _ W ⟨r, rfl, hR.fr f⟩
  obtain ⟨w1, hw1⟩ : ∃ x, w.alloc (.cells #[.int .i64 T.st, .int .i64 T.ev, .int .i64 T.sr, r] TTab) = x := ⟨_, rfl⟩
  have P1 := Pt.newA w TTab #[.int .i64 T.st, .int .i64 T.ev, .int .i64 T.sr, r]
  rw [hw1] at P1
  have F1 : Fr [] w w1 := by rw [← hw1]; exact (Fr.refl [] w).alloc _
  obtain ⟨b1, hb1⟩ : ∃ x, w.heap.size = x := ⟨_, rfl⟩
  rw [hb1] at P1
  have k1 := P1.cell
  replace P1 := Lib.hid P1; replace F1 := Lib.hid F1; replace VA := Lib.hid VA; replace hR := Lib.hid hR
  obtain ⟨⟨X, z⟩, hX⟩ : ∃ x, reachF T = x := ⟨_, rfl⟩
  rw [hX]
  dsimp only
  replace hX := Lib.hid hX
  go_enter Try.func33, Try.ntmps33
  go_wp2_with fail
  refine (VA.out _ F1.out).mono ?_
  rintro e w2 ⟨rfl, f2⟩
  have F2 := Lib.hid (F1.out.trans f2)
  have P2 := Lib.hid (f2.pt P1.out (by simp))
  have k2 := P2.out.cell
  replace f2 := Lib.hid f2
  clear k1 hw1 hb1
  cases hv : validT T
  · have hx := hX.out
    unfold reachF at hx
    rw [hv] at hx
    obtain ⟨rfl, rfl⟩ : [] = X ∧ 1 = z := by simpa using hx
    clear hx
    replace hv := Lib.hid hv
    go_wp2_with fail
    go_ret2
    exact ⟨_, rfl, NIn.nil _, F2.out⟩
  · have hV := (validT_iff T).mp hv
    have hx := hX.out
    unfold reachF at hx
    rw [hv] at hx
    obtain ⟨rfl, rfl⟩ : reachL T = X ∧ 0 = z := by simpa using hx
    clear hx
    have RE := reach_any T _ w2 ⟨r, rfl, hR.out.fr F2.out⟩ hV
    replace RE := Lib.hid RE; replace hv := Lib.hid hv; replace hV := Lib.hid hV
    go_wp2_with fail
    refine RE.out.mono ?_
    rintro e w3 ⟨ov, rfl, hN, f3⟩
    have F3 := Lib.hid (F2.out.trans f3)
    replace hN := Lib.hid hN; replace f3 := Lib.hid f3
    go_wp2_with fail
    go_ret2
    exact ⟨_, rfl, hN.out, F3.out⟩
end Go.Proofs.Ytnggimkkjdipmaa
