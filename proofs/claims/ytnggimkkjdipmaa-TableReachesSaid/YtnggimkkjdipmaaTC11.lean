import Derived.Test.YtnggimkkjdipmaaTC9
import Derived.Test.YtnggimkkjdipmaaTC10
namespace Go.Proofs.Ytnggimkkjdipmaa
open Go.RowKit
set_option linter.unusedVariables false
set_option linter.unusedSimpArgs false
set_option maxHeartbeats 16000000
set_option maxRecDepth 100000
theorem reachF_len {T : Tb} : (reachF T).1.length ≤ 1000 := by
  unfold reachF
  cases h : validT T
  · simp
  · have := reachL_len ((validT_iff T).mp h); simp; omega
theorem missF_len {T : Tb} : (missF T).1.length ≤ 1000 := by
  unfold missF
  cases h : validT T
  · simp
  · have hV := (validT_iff T).mp h
    have := missTo_len hV (reachL T).length
    rw [missTo_all] at this
    simp; omega
theorem treaches_any (T : Tb) (v : Value) (w : World) (hT : TIn w v T) (hz : Fits T) :
    Calls Try.prog 9 #[v] w fun e w' => e = .returned (.bool true) ∧ Fr [] w w' := by
  obtain ⟨r, rfl, hR⟩ := hT
  rw [show T.val r = .agg #[.int .i64 T.st, .int .i64 T.ev, .int .i64 T.sr, r] from rfl]
  have lr : (reachF T).1.length ≤ 1000 := reachF_len
  have lm : (missF T).1.length ≤ 1000 := missF_len
  obtain ⟨⟨X, x⟩, hX⟩ : ∃ y, reachF T = y := ⟨_, rfl⟩
  obtain ⟨⟨M, m⟩, hM⟩ : ∃ y, missF T = y := ⟨_, rfl⟩
  rw [hX] at lr
  rw [hM] at lm
  dsimp only at lr lm
  have RA : ∀ W, Fr [] w W → Calls Try.prog 33 #[.agg #[.int .i64 T.st, .int .i64 T.ev, .int .i64 T.sr, r]] W fun e w' => ∃ ov, e = .returned (.tuple #[ov, .int .i64 x]) ∧ NIn w' ov X ∧ Fr [] W w' := fun W f => by
    have := Reach_any T _ W ⟨r, rfl, hR.fr f⟩; rw [hX] at this; exact this
  have MA : ∀ W, Fr [] w W → Calls Try.prog 35 #[.agg #[.int .i64 T.st, .int .i64 T.ev, .int .i64 T.sr, r]] W fun e w' => ∃ ov, e = .returned (.tuple #[ov, .int .i64 m]) ∧ PIn w' ov M ∧ Fr [] W w' := fun W f => by
    have := Missing_any T _ W ⟨r, rfl, hR.fr f⟩; rw [hM] at this; exact this
  have RB : ∀ W v, TIn W v T → Calls Try.prog 34 #[v] W fun e w' => ∃ ov, e = .returned (.tuple #[ov, .int .i64 x]) ∧ NIn w' ov X ∧ Fr [] W w' := fun W v f => by
    have := rReach_any T _ W f; rw [hX] at this; exact this
  have MB : ∀ W v, TIn W v T → Calls Try.prog 36 #[v] W fun e w' => ∃ ov, e = .returned (.tuple #[ov, .int .i64 m]) ∧ PIn w' ov M ∧ Fr [] W w' := fun W v f => by
    have := rMissing_any T _ W f; rw [hM] at this; exact this
  have TO : ∀ W, Fr [] w W → Calls Try.prog 18 #[.agg #[.int .i64 T.st, .int .i64 T.ev, .int .i64 T.sr, r]] W fun e w' => ∃ rv, e = .returned rv ∧ TIn w' rv T ∧ Fr [] W w' := fun W f => to_any T _ W ⟨r, rfl, hR.fr f⟩ hz
  obtain ⟨w1, hw1⟩ : ∃ x, w.alloc (.cells #[.int .i64 T.st, .int .i64 T.ev, .int .i64 T.sr, r] TTab) = x := ⟨_, rfl⟩
  have P1 := Pt.newA w TTab #[.int .i64 T.st, .int .i64 T.ev, .int .i64 T.sr, r]
  rw [hw1] at P1
  have F1 : Fr [] w w1 := by rw [← hw1]; exact (Fr.refl [] w).alloc _
  obtain ⟨b1, hb1⟩ : ∃ x, w.heap.size = x := ⟨_, rfl⟩
  rw [hb1] at P1
  have k1 := P1.cell
  replace P1 := Lib.hid P1; replace F1 := Lib.hid F1; replace RA := Lib.hid RA; replace MA := Lib.hid MA; replace RB := Lib.hid RB; replace MB := Lib.hid MB; replace TO := Lib.hid TO; replace hX := Lib.hid hX; replace hM := Lib.hid hM
  go_enter Try.func9, Try.ntmps9
  go_wp2_with fail
  refine (RA.out _ F1.out).mono ?_
  rintro e w2 ⟨v2, rfl, n2, f2⟩
  have F2 := F1.out.trans f2
  have P2 := f2.pt P1.out (by simp)
  have k2 := P2.cell
  clear k1 hw1 hb1
  replace n2 := Lib.hid n2; replace f2 := Lib.hid f2; replace F2 := Lib.hid F2; replace P2 := Lib.hid P2
  go_wp2_with fail
  refine (TO.out _ F2.out).mono ?_
  rintro e w3 ⟨v3, rfl, t3, f3⟩
  have F3 := F2.out.trans f3
  have P3 := f3.pt P2.out (by simp)
  have n3 := n2.out.fr f3
  clear k2
  replace t3 := Lib.hid t3; replace f3 := Lib.hid f3; replace F3 := Lib.hid F3; replace P3 := Lib.hid P3; replace n3 := Lib.hid n3
  go_wp2_with fail
  refine (RB.out _ _ t3.out).mono ?_
  rintro e w4 ⟨v4, rfl, n4, f4⟩
  have F4 := F3.out.trans f4
  have P4 := f4.pt P3.out (by simp)
  have n3' := n3.out.fr f4
  have k4 := P4.cell
  replace n4 := Lib.hid n4; replace f4 := Lib.hid f4; replace F4 := Lib.hid F4; replace P4 := Lib.hid P4; replace n3' := Lib.hid n3'
  go_wp2_with fail
  refine (MA.out _ F4.out).mono ?_
  rintro e w5 ⟨v5, rfl, n5, f5⟩
  have F5 := F4.out.trans f5
  have P5 := f5.pt P4.out (by simp)
  have k5 := P5.cell
  clear k4
  replace n5 := Lib.hid n5; replace f5 := Lib.hid f5; replace F5 := Lib.hid F5; replace P5 := Lib.hid P5
  go_wp2_with fail
  refine (TO.out _ F5.out).mono ?_
  rintro e w6 ⟨v6, rfl, t6, f6⟩
  have F6 := F5.out.trans f6
  have n56 := n5.out.fr f6
  clear k5
  replace t6 := Lib.hid t6; replace f6 := Lib.hid f6; replace F6 := Lib.hid F6; replace n56 := Lib.hid n56
  go_wp2_with fail
  refine (MB.out _ _ t6.out).mono ?_
  rintro e w7 ⟨v7, rfl, n7, f7⟩
  have F7 := F6.out.trans f7
  have n57 := n56.out.fr f7
  have f47 := (f5.out.trans f6.out).trans f7
  have IN := ints_any _ _ X X w7 (n3'.out.fr f47) (n4.out.fr f47) (by omega)
  rw [decide_eq_true rfl] at IN
  replace n7 := Lib.hid n7; replace f7 := Lib.hid f7; replace F7 := Lib.hid F7; replace n57 := Lib.hid n57; replace f47 := Lib.hid f47; replace IN := Lib.hid IN
  go_wp2_with fail
  refine (IN.out).mono ?_
  rintro e w8 ⟨rfl, f8⟩
  have PS := pairs_same _ _ M w8 (n57.out.fr f8) (n7.out.fr f8) (by omega)
  have F8 := F7.out.trans f8
  replace f8 := Lib.hid f8; replace F8 := Lib.hid F8; replace PS := Lib.hid PS
  go_wp2_with fail
  refine (PS.out).mono ?_
  rintro e w9 ⟨rfl, f9⟩
  have F9 := F8.out.trans f9
  have SN := sane_any w9
  replace f9 := Lib.hid f9; replace F9 := Lib.hid F9; replace SN := Lib.hid SN
  go_wp2_with fail
  refine (SN.out).mono ?_
  rintro e w10 ⟨rfl, f10⟩
  have F10 := F9.out.trans f10
  replace f10 := Lib.hid f10; replace F10 := Lib.hid F10
  go_wp2_with fail
  go_ret
  exact ⟨rfl, F10.out⟩
end Go.Proofs.Ytnggimkkjdipmaa
