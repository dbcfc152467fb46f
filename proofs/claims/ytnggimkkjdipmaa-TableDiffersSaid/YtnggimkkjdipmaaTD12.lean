import Derived.Test.YtnggimkkjdipmaaTD11
import Derived.Test.YtnggimkkjdipmaaTD8b
namespace Go.Proofs.Ytnggimkkjdipmaa
open Go.RowKit
set_option linter.unusedVariables false
set_option linter.unusedSimpArgs false
set_option maxHeartbeats 16000000
set_option maxRecDepth 100000
theorem tdiffers_any (A B : Tb) (ra rb : Value) (a b : Int) (w : World) (hRA : RIn w ra A.rows) (hzA : Fits A) (hRB : RIn w rb B.rows) (hzB : Fits B) :
    Calls Try.prog 5 #[.agg #[.int .i64 A.st, .int .i64 A.ev, .int .i64 A.sr, ra, .int .i64 B.st, .int .i64 B.ev, .int .i64 B.sr, rb, .int .i64 a, .int .i64 b]] w fun e w' => e = .returned (.bool true) ∧ Fr [] w w' := by
  obtain ⟨⟨X1, X2⟩, hX⟩ : ∃ x, alikeF A B = x := ⟨_, rfl⟩
  obtain ⟨⟨Y1, Y2⟩, hY⟩ : ∃ x, differF A a B b = x := ⟨_, rfl⟩
  have hYl : Y1.length ≤ 9223372036854775807 := by have := differF_len A a B b; rw [hY] at this; dsimp only at this; omega
  have PS : ∀ W, Fr [] w W → Calls Try.prog 25 #[.agg #[.int .i64 A.st, .int .i64 A.ev, .int .i64 A.sr, ra], .agg #[.int .i64 B.st, .int .i64 B.ev, .int .i64 B.sr, rb]] W fun e w' => e = .returned (.tuple #[.bool X1, .int .i64 X2]) ∧ Fr [] W w' := fun W f => by
    have := alike_any A B _ _ W ⟨ra, rfl, hRA.fr f⟩ ⟨rb, rfl, hRB.fr f⟩
    rw [hX] at this
    exact this
  have DS : ∀ W, Fr [] w W → Calls Try.prog 27 #[.agg #[.int .i64 A.st, .int .i64 A.ev, .int .i64 A.sr, ra], .int .i64 a, .agg #[.int .i64 B.st, .int .i64 B.ev, .int .i64 B.sr, rb], .int .i64 b] W fun e w' => ∃ v, e = .returned (.tuple #[v, .int .i64 Y2]) ∧ NIn w' v Y1 ∧ Fr [] W w' := fun W f => by
    have := Differ_any A B _ _ a b W ⟨ra, rfl, hRA.fr f⟩ ⟨rb, rfl, hRB.fr f⟩
    rw [hY] at this
    exact this
  replace hRA := Lib.hid hRA; replace hRB := Lib.hid hRB; replace hX := Lib.hid hX; replace hY := Lib.hid hY; replace hYl := Lib.hid hYl
  obtain ⟨w1, hw1⟩ : ∃ x, w.alloc (.cells #[.int .i64 A.st, .int .i64 A.ev, .int .i64 A.sr, ra, .int .i64 B.st, .int .i64 B.ev, .int .i64 B.sr, rb, .int .i64 a, .int .i64 b] 45) = x := ⟨_, rfl⟩
  have P1 := Pt.newA w 45 #[.int .i64 A.st, .int .i64 A.ev, .int .i64 A.sr, ra, .int .i64 B.st, .int .i64 B.ev, .int .i64 B.sr, rb, .int .i64 a, .int .i64 b]
  rw [hw1] at P1
  have F1 : Fr [] w w1 := by rw [← hw1]; exact (Fr.refl [] w).alloc _
  obtain ⟨b1, hb1⟩ : ∃ x, w.heap.size = x := ⟨_, rfl⟩
  rw [hb1] at P1
  have k1 := P1.cell
  replace P1 := Lib.hid P1; replace F1 := Lib.hid F1; replace PS := Lib.hid PS; replace DS := Lib.hid DS
  go_enter Try.func5, Try.ntmps5
  go_wp2_with fail
  refine (PS.out _ F1.out).mono ?_
  rintro e wq ⟨rfl, f2⟩
  have FQ := Lib.hid (F1.out.trans f2)
  have Q2 := Lib.hid (f2.pt P1.out (by simp))
  replace f2 := Lib.hid f2
  clear k1 hw1
  have TQA2 : ∀ W, Fr [] wq W → Calls Try.prog 18 #[.agg #[.int .i64 A.st, .int .i64 A.ev, .int .i64 A.sr, ra]] W fun e w' => ∃ rv, e = .returned rv ∧ TIn w' rv A ∧ Fr [] W w' ∧ Fr [] wq w' := fun W f => (to_any A _ W ⟨ra, rfl, hRA.out.fr (FQ.out.trans f)⟩ hzA).mono (fun e w' h => by
    obtain ⟨rv, h1, h2, h3⟩ := h
    exact ⟨rv, h1, h2, h3, f.trans h3⟩)
  have TQB2 : ∀ W, Fr [] wq W → Calls Try.prog 18 #[.agg #[.int .i64 B.st, .int .i64 B.ev, .int .i64 B.sr, rb]] W fun e w' => ∃ rv, e = .returned rv ∧ TIn w' rv B ∧ Fr [] W w' ∧ Fr [] wq w' := fun W f => (to_any B _ W ⟨rb, rfl, hRB.out.fr (FQ.out.trans f)⟩ hzB).mono (fun e w' h => by
    obtain ⟨rv, h1, h2, h3⟩ := h
    exact ⟨rv, h1, h2, h3, f.trans h3⟩)
  have SS2 : ∀ W, Fr [] wq W → W.cell? ⟨b1, 0, none⟩ = some (.int .i64 A.st) ∧ W.cell? ⟨b1, 1, none⟩ = some (.int .i64 A.ev) ∧ W.cell? ⟨b1, 2, none⟩ = some (.int .i64 A.sr) ∧ W.cell? ⟨b1, 3, none⟩ = some ra ∧ W.cell? ⟨b1, 4, none⟩ = some (.int .i64 B.st) ∧ W.cell? ⟨b1, 5, none⟩ = some (.int .i64 B.ev) ∧ W.cell? ⟨b1, 6, none⟩ = some (.int .i64 B.sr) ∧ W.cell? ⟨b1, 7, none⟩ = some rb ∧ W.cell? ⟨b1, 8, none⟩ = some (.int .i64 a) ∧ W.cell? ⟨b1, 9, none⟩ = some (.int .i64 b) := fun W f => by
    have p := (f.pt Q2.out (by simp)).cell
    exact ⟨p 0, p 1, p 2, p 3, p 4, p 5, p 6, p 7, p 8, p 9⟩
  have RP2 : ∀ W rva rvb, Fr [] wq W → TIn W rva A → TIn W rvb B → Calls Try.prog 26 #[rva, rvb] W fun e w' => e = .returned (.tuple #[.bool X1, .int .i64 X2]) ∧ Fr [] wq w' := fun W rva rvb f h1 h2 => by
    have := ralike_any A B rva rvb W h1 h2
    rw [hX.out] at this
    exact this.mono (fun e w' h => ⟨h.1, f.trans h.2⟩)
  obtain ⟨s0, s1, s2, s3, s4, s5, s6, s7, s8, s9⟩ := SS2 wq (Fr.refl _ _)
  replace SS2 := Lib.hid SS2; replace TQA2 := Lib.hid TQA2; replace TQB2 := Lib.hid TQB2; replace RP2 := Lib.hid RP2
  go_upto_region 2 with fail
  clear s0 s1 s2 s3 s4 s5 s6 s7 s8 s9
  go_region_held3 (fun W => W.cell? ⟨b1, 0, none⟩ = some (.int .i64 A.st) ∧ W.cell? ⟨b1, 1, none⟩ = some (.int .i64 A.ev) ∧ W.cell? ⟨b1, 2, none⟩ = some (.int .i64 A.sr) ∧ W.cell? ⟨b1, 3, none⟩ = some ra ∧ W.cell? ⟨b1, 4, none⟩ = some (.int .i64 B.st) ∧ W.cell? ⟨b1, 5, none⟩ = some (.int .i64 B.ev) ∧ W.cell? ⟨b1, 6, none⟩ = some (.int .i64 B.sr) ∧ W.cell? ⟨b1, 7, none⟩ = some rb ∧ W.cell? ⟨b1, 8, none⟩ = some (.int .i64 a) ∧ W.cell? ⟨b1, 9, none⟩ = some (.int .i64 b))
    (first | exact SS2.out _ (Fr.refl _ _).drew | exact SS2.out _ GP2.out | exact SS2.out _ GA.out | exact SS2.out _ GB.out)
    ((first
      | (go_at_call 18; with_reducible refine Calls.mono (TQA2.out _ ?hfr) ?_; (case hfr => first | exact (Fr.refl _ _).drew | exact GB.out); rintro e wA ⟨rva, rfl, tA, gA, GA⟩; replace tA := Lib.hid tA; replace gA := Lib.hid gA; replace GA := Lib.hid GA)
      | (go_at_call 18; with_reducible refine Calls.mono (TQB2.out _ ?hfr) ?_; (case hfr => first | exact (Fr.refl _ _).drew | exact GA.out); rintro e wB ⟨rvb, rfl, tB, gB, GB⟩; replace tB := Lib.hid tB; replace gB := Lib.hid gB; replace GB := Lib.hid GB)
      | (go_at_call 26; with_reducible refine Calls.mono (RP2.out wB rva rvb GB.out (tA.out.fr gB.out) tB.out) ?_; rintro e wP ⟨rfl, GP2⟩; replace GP2 := Lib.hid GP2)
      | (go_at_call 26; with_reducible refine Calls.mono (RP2.out wA rva rvb GA.out tA.out (tB.out.fr gA.out)) ?_; rintro e wP ⟨rfl, GP2⟩; replace GP2 := Lib.hid GP2)))
  all_goals
    as_aux_lemma =>
    clear tA tB gA gB GA GB SS2 TQA2 TQB2 RP2
    have Q3 := Lib.hid (GP2.out.pt Q2.out (by simp))
    have F3 := Lib.hid (FQ.out.trans GP2.out)
    have k3 := Q3.out.cell
    go_wp2_with fail
    refine (DS.out _ F3.out).mono ?_
    rintro e wd ⟨v4, rfl, n4, f4⟩
    have FD := Lib.hid (F3.out.trans f4)
    have Q4 := Lib.hid (f4.pt Q3.out (by simp))
    obtain ⟨o4, c4, hv4⟩ : ∃ o c, v4 = .slice o Y1.length c := by obtain ⟨o, c, e, _⟩ := n4; exact ⟨o, c, e⟩
    subst hv4
    replace f4 := Lib.hid f4; replace n4 := Lib.hid n4
    clear k3
    have TQA4 : ∀ W, Fr [] wd W → Calls Try.prog 18 #[.agg #[.int .i64 A.st, .int .i64 A.ev, .int .i64 A.sr, ra]] W fun e w' => ∃ rv, e = .returned rv ∧ TIn w' rv A ∧ Fr [] W w' ∧ Fr [] wd w' := fun W f => (to_any A _ W ⟨ra, rfl, hRA.out.fr (FD.out.trans f)⟩ hzA).mono (fun e w' h => by
      obtain ⟨rv, h1, h2, h3⟩ := h
      exact ⟨rv, h1, h2, h3, f.trans h3⟩)
    have TQB4 : ∀ W, Fr [] wd W → Calls Try.prog 18 #[.agg #[.int .i64 B.st, .int .i64 B.ev, .int .i64 B.sr, rb]] W fun e w' => ∃ rv, e = .returned rv ∧ TIn w' rv B ∧ Fr [] W w' ∧ Fr [] wd w' := fun W f => (to_any B _ W ⟨rb, rfl, hRB.out.fr (FD.out.trans f)⟩ hzB).mono (fun e w' h => by
      obtain ⟨rv, h1, h2, h3⟩ := h
      exact ⟨rv, h1, h2, h3, f.trans h3⟩)
    have SS4 : ∀ W, Fr [] wd W → W.cell? ⟨b1, 0, none⟩ = some (.int .i64 A.st) ∧ W.cell? ⟨b1, 1, none⟩ = some (.int .i64 A.ev) ∧ W.cell? ⟨b1, 2, none⟩ = some (.int .i64 A.sr) ∧ W.cell? ⟨b1, 3, none⟩ = some ra ∧ W.cell? ⟨b1, 4, none⟩ = some (.int .i64 B.st) ∧ W.cell? ⟨b1, 5, none⟩ = some (.int .i64 B.ev) ∧ W.cell? ⟨b1, 6, none⟩ = some (.int .i64 B.sr) ∧ W.cell? ⟨b1, 7, none⟩ = some rb ∧ W.cell? ⟨b1, 8, none⟩ = some (.int .i64 a) ∧ W.cell? ⟨b1, 9, none⟩ = some (.int .i64 b) := fun W f => by
      have p := (f.pt Q4.out (by simp)).cell
      exact ⟨p 0, p 1, p 2, p 3, p 4, p 5, p 6, p 7, p 8, p 9⟩
    have RP4 : ∀ W rva rvb, Fr [] wd W → TIn W rva A → TIn W rvb B → Calls Try.prog 28 #[rva, .int .i64 a, rvb, .int .i64 b] W fun e w' => ∃ v, e = .returned (.tuple #[v, .int .i64 Y2]) ∧ NIn w' v Y1 ∧ Fr [] wd w' := fun W rva rvb f h1 h2 => by
      have := rDiffer_any A B rva rvb a b W h1 h2
      rw [hY.out] at this
      exact this.mono (fun e w' ⟨v, h1, h2, h3⟩ => ⟨v, h1, h2, f.trans h3⟩)
    obtain ⟨s0, s1, s2, s3, s4, s5, s6, s7, s8, s9⟩ := SS4 wd (Fr.refl _ _)
    replace SS4 := Lib.hid SS4; replace TQA4 := Lib.hid TQA4; replace TQB4 := Lib.hid TQB4; replace RP4 := Lib.hid RP4
    go_upto_region 4 with fail
    clear s0 s1 s2 s3 s4 s5 s6 s7 s8 s9
    go_region_held3 (fun W => W.cell? ⟨b1, 0, none⟩ = some (.int .i64 A.st) ∧ W.cell? ⟨b1, 1, none⟩ = some (.int .i64 A.ev) ∧ W.cell? ⟨b1, 2, none⟩ = some (.int .i64 A.sr) ∧ W.cell? ⟨b1, 3, none⟩ = some ra ∧ W.cell? ⟨b1, 4, none⟩ = some (.int .i64 B.st) ∧ W.cell? ⟨b1, 5, none⟩ = some (.int .i64 B.ev) ∧ W.cell? ⟨b1, 6, none⟩ = some (.int .i64 B.sr) ∧ W.cell? ⟨b1, 7, none⟩ = some rb ∧ W.cell? ⟨b1, 8, none⟩ = some (.int .i64 a) ∧ W.cell? ⟨b1, 9, none⟩ = some (.int .i64 b))
      (first | exact SS4.out _ (Fr.refl _ _).drew | exact SS4.out _ GP4.out | exact SS4.out _ GA.out | exact SS4.out _ GB.out)
      ((first
        | (go_at_call 18; with_reducible refine Calls.mono (TQA4.out _ ?hfr) ?_; (case hfr => first | exact (Fr.refl _ _).drew | exact GB.out); rintro e wA ⟨rva, rfl, tA, gA, GA⟩; replace tA := Lib.hid tA; replace gA := Lib.hid gA; replace GA := Lib.hid GA)
        | (go_at_call 18; with_reducible refine Calls.mono (TQB4.out _ ?hfr) ?_; (case hfr => first | exact (Fr.refl _ _).drew | exact GA.out); rintro e wB ⟨rvb, rfl, tB, gB, GB⟩; replace tB := Lib.hid tB; replace gB := Lib.hid gB; replace GB := Lib.hid GB)
        | (go_at_call 28; with_reducible refine Calls.mono (RP4.out wB rva rvb GB.out (tA.out.fr gB.out) tB.out) ?_; rintro e wP ⟨v5, rfl, n5, GP4⟩; replace n5 := Lib.hid n5; replace GP4 := Lib.hid GP4)
        | (go_at_call 28; with_reducible refine Calls.mono (RP4.out wA rva rvb GA.out tA.out (tB.out.fr gA.out)) ?_; rintro e wP ⟨v5, rfl, n5, GP4⟩; replace n5 := Lib.hid n5; replace GP4 := Lib.hid GP4)))
    all_goals
      obtain ⟨o5, c5, hv5⟩ : ∃ o c, v5 = .slice o Y1.length c := by obtain ⟨o, c, e, _⟩ := n5.out; exact ⟨o, c, e⟩
      subst hv5
      have IN := ints_any _ _ Y1 Y1 wP (n4.out.fr GP4.out) n5.out hYl.out
      rw [decide_eq_true rfl] at IN
      replace IN := Lib.hid IN
      cases X1
      all_goals
        go_wp2_with fail
        refine IN.out.mono ?_
        rintro e w8 ⟨rfl, f8⟩
        have SN := Lib.hid (sane_any w8)
        have F8 := Lib.hid ((FD.out.trans GP4.out).trans f8)
        go_wp2_with fail
        refine SN.out.mono ?_
        rintro e w9 ⟨rfl, f9⟩
        have F9 := Lib.hid (F8.out.trans f9)
        go_wp2_with fail
        go_ret
        exact ⟨rfl, F9.out⟩
end Go.Proofs.Ytnggimkkjdipmaa
