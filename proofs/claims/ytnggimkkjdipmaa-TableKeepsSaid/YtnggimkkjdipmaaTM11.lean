import Derived.Test.YtnggimkkjdipmaaTM10
namespace Go.Proofs.Ytnggimkkjdipmaa
open Go.RowKit
set_option linter.unusedVariables false
set_option linter.unusedSimpArgs false
set_option maxHeartbeats 16000000
set_option maxRecDepth 100000
theorem mutantF_ok (T : Tb) (n : Int) : VT (mutantF T n).1 ∨ (mutantF T n).1 = Tb.none := by
  unfold mutantF
  cases hv : validT T
  · exact .inr rfl
  · have hV := (validT_iff T).mp hv
    rw [if_pos rfl]
    by_cases h0 : 0 ≤ n
    · rw [if_pos h0]
      cases hx : (mutL T)[n.toNat]? with
      | none => exact .inr rfl
      | some x => exact .inl (hV.chg (mutL_ok hV x (List.mem_of_getElem? hx)))
    · rw [if_neg h0]; exact .inr rfl
theorem rsame_any (X : Tb) (hX : VT X ∨ X = Tb.none) (va vb : Value) (w : World) (hA : TIn w va X) (hB : TIn w vb X) :
    Calls Try.prog 32 #[va, vb] w fun e w' => e = .returned (.bool true) ∧ Fr [] w w' := by
  rcases hX with h | rfl
  · exact rsame_eq X va vb w hA hB h
  · exact rsame_none va vb w hA hB
theorem int_rng {n : Int} (h : (Lit.int .i64 n).wf = true) : -9223372036854775808 ≤ n ∧ n ≤ 9223372036854775807 := by
  have h2 : decide (IntKind.i64.min ≤ n) = true ∧ decide (n ≤ IntKind.i64.max) = true := by simpa [Lit.wf] using h
  rw [decide_eq_true_eq, decide_eq_true_eq, show IntKind.i64.min = -9223372036854775808 by decide +kernel, show IntKind.i64.max = 9223372036854775807 by decide +kernel] at h2
  exact h2
theorem VT.fits {T : Tb} (h : VT T) : Fits T := by
  have h1 := h.rows; have h2 := h.st; have h3 := h.ev
  exact ⟨by omega, fun l hl => by have := h.row l hl; omega⟩
theorem tmutates_any (T : Tb) (v : Value) (n : Int) (hn : -9223372036854775808 ≤ n ∧ n ≤ 9223372036854775807) (w : World) (hT : TIn w v T) (hz : Fits T) :
    Calls Try.prog 10 #[v, .int .i64 n] w fun e w' => e = .returned (.bool true) ∧ Fr [] w w' := by
  obtain ⟨r, rfl, hR⟩ := hT
  rw [show T.val r = .agg #[.int .i64 T.st, .int .i64 T.ev, .int .i64 T.sr, r] from rfl]
  have hXo := mutantF_ok T n
  obtain ⟨⟨X, z⟩, hX⟩ : ∃ y, mutantF T n = y := ⟨_, rfl⟩
  rw [hX] at hXo
  dsimp only at hXo
  have hzX : Fits X := by
    rcases hXo with h | rfl
    · exact h.fits
    · exact ⟨by simp [Tb.none], by simp [Tb.none]⟩
  have MA : ∀ W, Fr [] w W → Calls Try.prog 38 #[.agg #[.int .i64 T.st, .int .i64 T.ev, .int .i64 T.sr, r], .int .i64 n] W fun e w' => ∃ o k c, e = .returned (.tuple #[.agg #[.int .i64 X.st, .int .i64 X.ev, .int .i64 X.sr, .slice o k c], .int .i64 z]) ∧ RIn w' (.slice o k c) X.rows ∧ Fr [] W w' := fun W f => by
    have := Mutant_any T _ n hn W ⟨r, rfl, hR.fr f⟩
    rw [hX] at this
    refine this.mono fun e w' ⟨rv, us, bo, bs, h1, h2, h3⟩ => ?_
    obtain ⟨o, k, c, rfl⟩ := h2.rinb.shape
    exact ⟨o, k, c, h1, h2.rin, h3⟩
  have MB : ∀ W v, TIn W v T → Calls Try.prog 39 #[v, .int .i64 n] W fun e w' => ∃ o k c, e = .returned (.tuple #[.agg #[.int .i64 X.st, .int .i64 X.ev, .int .i64 X.sr, .slice o k c], .int .i64 z]) ∧ RIn w' (.slice o k c) X.rows ∧ Fr [] W w' := fun W v f => by
    have := rMutant_any T _ n W f
    rw [hX] at this
    refine this.mono fun e w' ⟨rv, h1, h2, h3⟩ => ?_
    have h2' := h2
    obtain ⟨o, c, rfl, _⟩ := h2'
    exact ⟨o, _, c, h1, h2, h3⟩
  have TO : ∀ W, Fr [] w W → Calls Try.prog 18 #[.agg #[.int .i64 T.st, .int .i64 T.ev, .int .i64 T.sr, r]] W fun e w' => ∃ rv, e = .returned rv ∧ TIn w' rv T ∧ Fr [] W w' := fun W f => to_any T _ W ⟨r, rfl, hR.fr f⟩ hz
  obtain ⟨w1, hw1⟩ : ∃ x, w.alloc (.cells #[.int .i64 T.st, .int .i64 T.ev, .int .i64 T.sr, r] TTab) = x := ⟨_, rfl⟩
  have P1 := Pt.newA w TTab #[.int .i64 T.st, .int .i64 T.ev, .int .i64 T.sr, r]
  rw [hw1] at P1
  have F1 : Fr [] w w1 := by rw [← hw1]; exact (Fr.refl [] w).alloc _
  obtain ⟨b1, hb1⟩ : ∃ x, w.heap.size = x := ⟨_, rfl⟩
  rw [hb1] at P1
  have k1 := P1.cell
  replace P1 := Lib.hid P1; replace F1 := Lib.hid F1; replace MA := Lib.hid MA; replace MB := Lib.hid MB; replace TO := Lib.hid TO; replace hX := Lib.hid hX; replace hXo := Lib.hid hXo; replace hzX := Lib.hid hzX; replace hn := Lib.hid hn
  go_enter Try.func10, Try.ntmps10
  go_wp2_with fail
  refine (MA.out _ F1.out).mono ?_
  rintro e w2 ⟨oa, na, ca, rfl, n2, f2⟩
  have F2 := F1.out.trans f2
  have P2 := f2.pt P1.out (by simp)
  clear k1 hw1 hb1
  obtain ⟨w3, hw3⟩ : ∃ x, w2.alloc (.cells #[.int .i64 X.st, .int .i64 X.ev, .int .i64 X.sr, .slice oa na ca] TTab) = x := ⟨_, rfl⟩
  have P3 := Pt.newA w2 TTab #[.int .i64 X.st, .int .i64 X.ev, .int .i64 X.sr, .slice oa na ca]
  rw [hw3] at P3
  have F3 : Fr [] w2 w3 := by rw [← hw3]; exact (Fr.refl [] w2).alloc _
  obtain ⟨b3, hb3⟩ : ∃ x, w2.heap.size = x := ⟨_, rfl⟩
  rw [hb3] at P3
  have P23 := F3.pt P2 (by simp)
  have n3 := n2.fr F3
  have F03 := F2.trans F3
  have k3 := P23.cell
  replace n2 := Lib.hid n2; replace f2 := Lib.hid f2; replace F2 := Lib.hid F2; replace P2 := Lib.hid P2; replace P3 := Lib.hid P3; replace F3 := Lib.hid F3; replace P23 := Lib.hid P23; replace n3 := Lib.hid n3; replace F03 := Lib.hid F03
  go_wp2_with fail
  refine (TO.out _ F03.out).mono ?_
  rintro e w4 ⟨v4, rfl, t4, f4⟩
  have F04 := F03.out.trans f4
  have P34 := f4.pt P3.out (by simp)
  have n4 := n3.out.fr f4
  clear k3 hw3 hb3
  replace t4 := Lib.hid t4; replace f4 := Lib.hid f4; replace F04 := Lib.hid F04; replace P34 := Lib.hid P34; replace n4 := Lib.hid n4
  go_wp2_with fail
  refine (MB.out _ _ t4.out).mono ?_
  rintro e w5 ⟨ob, nb, cb, rfl, n5, f5⟩
  obtain ⟨w6, hw6⟩ : ∃ x, w5.alloc (.cells #[.int .i64 X.st, .int .i64 X.ev, .int .i64 X.sr, .slice ob nb cb] RTab) = x := ⟨_, rfl⟩
  have P6 := Pt.newA w5 RTab #[.int .i64 X.st, .int .i64 X.ev, .int .i64 X.sr, .slice ob nb cb]
  rw [hw6] at P6
  have F6 : Fr [] w5 w6 := by rw [← hw6]; exact (Fr.refl [] w5).alloc _
  obtain ⟨b6, hb6⟩ : ∃ x, w5.heap.size = x := ⟨_, rfl⟩
  rw [hb6] at P6
  have F56 := f5.trans F6
  have P36 := F56.pt P34.out (by simp)
  have n6 := n5.fr F6
  have m6 := n4.out.fr F56
  have F06 := F04.out.trans F56
  have SS : ∀ W, Fr [] w6 W → W.cell? ⟨b3, 0, none⟩ = some (.int .i64 X.st) ∧ W.cell? ⟨b3, 1, none⟩ = some (.int .i64 X.ev) ∧ W.cell? ⟨b3, 2, none⟩ = some (.int .i64 X.sr) ∧ W.cell? ⟨b3, 3, none⟩ = some (.slice oa na ca) ∧ W.cell? ⟨b6, 0, none⟩ = some (.int .i64 X.st) ∧ W.cell? ⟨b6, 1, none⟩ = some (.int .i64 X.ev) ∧ W.cell? ⟨b6, 2, none⟩ = some (.int .i64 X.sr) ∧ W.cell? ⟨b6, 3, none⟩ = some (.slice ob nb cb) := fun W f => by
    have p := (f.pt P36 (by simp)).cell
    have q := (f.pt P6 (by simp)).cell
    exact ⟨p 0, p 1, p 2, p 3, q 0, q 1, q 2, q 3⟩
  have TQ : ∀ W, Fr [] w6 W → Calls Try.prog 18 #[.agg #[.int .i64 X.st, .int .i64 X.ev, .int .i64 X.sr, .slice oa na ca]] W fun e w' => ∃ rv, e = .returned rv ∧ TIn w' rv X ∧ Fr [] w6 w' := fun W f => (to_any X _ W ⟨_, rfl, m6.fr f⟩ hzX.out).mono fun e w' ⟨rv, h1, h2, h3⟩ => ⟨rv, h1, h2, f.trans h3⟩
  have SQ : ∀ W rv, Fr [] w6 W → TIn W rv X → Calls Try.prog 32 #[rv, .agg #[.int .i64 X.st, .int .i64 X.ev, .int .i64 X.sr, .slice ob nb cb]] W fun e w' => e = .returned (.bool true) ∧ Fr [] w6 w' := fun W rv f h => (rsame_any X hXo.out rv _ W h ⟨_, rfl, n6.fr f⟩).mono fun e w' ⟨h1, h2⟩ => ⟨h1, f.trans h2⟩
  have NQ : ∀ W, Fr [] w6 W → Calls Try.prog 22 #[] W fun e w' => e = .returned (.bool true) ∧ Fr [] w6 w' := fun W f => (sane_any W).mono fun e w' ⟨h1, h2⟩ => ⟨h1, f.trans h2⟩
  obtain ⟨s0, s1, s2, s3, s4, s5, s6, s7⟩ := SS w6 (Fr.refl _ _)
  replace SS := Lib.hid SS; replace TQ := Lib.hid TQ; replace SQ := Lib.hid SQ; replace NQ := Lib.hid NQ; replace n5 := Lib.hid n5; replace f5 := Lib.hid f5; replace P6 := Lib.hid P6; replace F6 := Lib.hid F6; replace F56 := Lib.hid F56; replace P36 := Lib.hid P36; replace n6 := Lib.hid n6; replace m6 := Lib.hid m6; replace F06 := Lib.hid F06
  go_upto_region 3 with fail
  clear s0 s1 s2 s3 s4 s5 s6 s7
  go_region_held3 (fun W => W.cell? ⟨b3, 0, none⟩ = some (.int .i64 X.st) ∧ W.cell? ⟨b3, 1, none⟩ = some (.int .i64 X.ev) ∧ W.cell? ⟨b3, 2, none⟩ = some (.int .i64 X.sr) ∧ W.cell? ⟨b3, 3, none⟩ = some (.slice oa na ca) ∧ W.cell? ⟨b6, 0, none⟩ = some (.int .i64 X.st) ∧ W.cell? ⟨b6, 1, none⟩ = some (.int .i64 X.ev) ∧ W.cell? ⟨b6, 2, none⟩ = some (.int .i64 X.sr) ∧ W.cell? ⟨b6, 3, none⟩ = some (.slice ob nb cb))
    (first | exact SS.out _ (Fr.refl _ _).drew | exact SS.out _ GP.out | exact SS.out _ GS.out | exact SS.out _ GA.out)
    ((first
      | (go_at_call 18; with_reducible refine Calls.mono (TQ.out _ ?hfr) ?_; (case hfr => exact (Fr.refl _ _).drew); rintro e wA ⟨rva, rfl, tA, GA⟩; replace tA := Lib.hid tA; replace GA := Lib.hid GA)
      | (go_at_call 32; with_reducible refine Calls.mono (SQ.out wA rva GA.out tA.out) ?_; rintro e wS ⟨rfl, GS⟩; replace GS := Lib.hid GS)
      | (go_at_call 22; with_reducible refine Calls.mono (NQ.out wS GS.out) ?_; rintro e wP ⟨rfl, GP⟩; replace GP := Lib.hid GP)))
  all_goals
    have FE := Lib.hid (F06.out.trans GP.out)
    go_wp2_with fail
    go_ret
    exact ⟨rfl, FE.out⟩
end Go.Proofs.Ytnggimkkjdipmaa
