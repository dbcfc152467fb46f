import Derived.Test.YtnggimkkjdipmaaTB25
namespace Go.Proofs.Ytnggimkkjdipmaa
open Go.RowKit
set_option linter.unusedVariables false
set_option linter.unusedSimpArgs false
set_option maxHeartbeats 16000000
set_option maxRecDepth 100000
theorem tpasses_any (A B : Tb) (va vb sv : Value) (ls : List (List Int)) (w : World) (hA : TIn w va A) (hzA : Fits A) (hB : TIn w vb B) (hzB : Fits B) (hS : SIn w sv ls) (hn : ls.length ≤ 9223372036854775807) (hnl : ∀ l ∈ ls, l.length ≤ 9223372036854775807) :
    Calls Try.prog 6 #[va, vb, sv] w fun e w' => e = .returned (.bool true) ∧ Fr [] w w' := by
  obtain ⟨ra, rfl, hRA⟩ := hA
  obtain ⟨rb, rfl, hRB⟩ := hB
  rw [show A.val ra = .agg #[.int .i64 A.st, .int .i64 A.ev, .int .i64 A.sr, ra] from rfl, show B.val rb = .agg #[.int .i64 B.st, .int .i64 B.ev, .int .i64 B.sr, rb] from rfl]
  obtain ⟨⟨X1, X2⟩, hX⟩ : ∃ x, passF A B ls = x := ⟨_, rfl⟩
  have PS : ∀ W, Fr [] w W → Calls Try.prog 29 #[.agg #[.int .i64 A.st, .int .i64 A.ev, .int .i64 A.sr, ra], .agg #[.int .i64 B.st, .int .i64 B.ev, .int .i64 B.sr, rb], sv] W fun e w' => e = .returned (.tuple #[.bool X1, .int .i64 X2]) ∧ Fr [] W w' := fun W f => by
    have := passes_any A B _ _ sv ls W ⟨ra, rfl, hRA.fr f⟩ ⟨rb, rfl, hRB.fr f⟩ (hS.fr f) hn
    rw [hX] at this
    exact this
  obtain ⟨w1, hw1⟩ : ∃ x, w.alloc (.cells #[.int .i64 A.st, .int .i64 A.ev, .int .i64 A.sr, ra] TTab) = x := ⟨_, rfl⟩
  have P1 := Pt.newA w TTab #[.int .i64 A.st, .int .i64 A.ev, .int .i64 A.sr, ra]
  rw [hw1] at P1
  have F1 : Fr [] w w1 := by rw [← hw1]; exact (Fr.refl [] w).alloc _
  obtain ⟨b1, hb1⟩ : ∃ x, w.heap.size = x := ⟨_, rfl⟩
  rw [hb1] at P1
  obtain ⟨w2, hw2⟩ : ∃ x, w1.alloc (.cells #[.int .i64 B.st, .int .i64 B.ev, .int .i64 B.sr, rb] TTab) = x := ⟨_, rfl⟩
  have P2 := Pt.newA w1 TTab #[.int .i64 B.st, .int .i64 B.ev, .int .i64 B.sr, rb]
  rw [hw2] at P2
  have F2 : Fr [] w1 w2 := by rw [← hw2]; exact (Fr.refl [] w1).alloc _
  obtain ⟨b2, hb2⟩ : ∃ x, w1.heap.size = x := ⟨_, rfl⟩
  rw [hb2] at P2
  have Q1 := F2.pt P1 (by simp)
  have FA := F1.trans F2
  have k1 := Q1.cell
  have k2 := P2.cell
  replace P1 := Lib.hid P1; replace P2 := Lib.hid P2; replace Q1 := Lib.hid Q1; replace F1 := Lib.hid F1; replace F2 := Lib.hid F2; replace FA := Lib.hid FA; replace PS := Lib.hid PS; replace hX := Lib.hid hX
  go_enter Try.func6, Try.ntmps6
  go_wp2_with fail
  refine (PS.out _ FA.out).mono ?_
  rintro e wq ⟨rfl, f3⟩
  have FQ := FA.out.trans f3
  have Q31 := f3.pt Q1.out (by simp)
  have Q32 := f3.pt P2.out (by simp)
  clear k1 k2 hw1 hw2
  have SS : ∀ W, Fr [] wq W → W.cell? ⟨b1, 0, none⟩ = some (.int .i64 A.st) ∧ W.cell? ⟨b1, 1, none⟩ = some (.int .i64 A.ev) ∧ W.cell? ⟨b1, 2, none⟩ = some (.int .i64 A.sr) ∧ W.cell? ⟨b1, 3, none⟩ = some ra ∧ W.cell? ⟨b2, 0, none⟩ = some (.int .i64 B.st) ∧ W.cell? ⟨b2, 1, none⟩ = some (.int .i64 B.ev) ∧ W.cell? ⟨b2, 2, none⟩ = some (.int .i64 B.sr) ∧ W.cell? ⟨b2, 3, none⟩ = some rb := fun W f => by
    have p := (f.pt Q31 (by simp)).cell
    have q := (f.pt Q32 (by simp)).cell
    exact ⟨p 0, p 1, p 2, p 3, q 0, q 1, q 2, q 3⟩
  have TQA : ∀ W, Fr [] wq W → Calls Try.prog 18 #[.agg #[.int .i64 A.st, .int .i64 A.ev, .int .i64 A.sr, ra]] W fun e w' => ∃ rv, e = .returned rv ∧ TIn w' rv A ∧ Fr [] W w' ∧ Fr [] wq w' := fun W f => (to_any A _ W ⟨ra, rfl, hRA.fr (FQ.trans f)⟩ hzA).mono (fun e w' h => by
    obtain ⟨rv, h1, h2, h3⟩ := h
    exact ⟨rv, h1, h2, h3, f.trans h3⟩)
  have TQB : ∀ W, Fr [] wq W → Calls Try.prog 18 #[.agg #[.int .i64 B.st, .int .i64 B.ev, .int .i64 B.sr, rb]] W fun e w' => ∃ rv, e = .returned rv ∧ TIn w' rv B ∧ Fr [] W w' ∧ Fr [] wq w' := fun W f => (to_any B _ W ⟨rb, rfl, hRB.fr (FQ.trans f)⟩ hzB).mono (fun e w' h => by
    obtain ⟨rv, h1, h2, h3⟩ := h
    exact ⟨rv, h1, h2, h3, f.trans h3⟩)
  have RPQ : ∀ W rva rvb, Fr [] wq W → TIn W rva A → TIn W rvb B → Calls Try.prog 30 #[rva, rvb, sv] W fun e w' => e = .returned (.tuple #[.bool X1, .int .i64 X2]) ∧ Fr [] wq w' := fun W rva rvb f h1 h2 => by
    have := rpasses_any A B rva rvb sv ls W h1 h2 (hS.fr (FQ.trans f)) hn hnl
    rw [hX.out] at this
    exact this.mono (fun e w' h => ⟨h.1, f.trans h.2⟩)
  obtain ⟨s0, s1, s2, s3, s4, s5, s6, s7⟩ := SS wq (Fr.refl _ _)
  replace SS := Lib.hid SS; replace TQA := Lib.hid TQA; replace TQB := Lib.hid TQB; replace RPQ := Lib.hid RPQ; replace FQ := Lib.hid FQ; replace f3 := Lib.hid f3; replace Q31 := Lib.hid Q31; replace Q32 := Lib.hid Q32
  go_upto_region 2 with fail
  clear s0 s1 s2 s3 s4 s5 s6 s7
  go_region_held3 (fun W => W.cell? ⟨b1, 0, none⟩ = some (.int .i64 A.st) ∧ W.cell? ⟨b1, 1, none⟩ = some (.int .i64 A.ev) ∧ W.cell? ⟨b1, 2, none⟩ = some (.int .i64 A.sr) ∧ W.cell? ⟨b1, 3, none⟩ = some ra ∧ W.cell? ⟨b2, 0, none⟩ = some (.int .i64 B.st) ∧ W.cell? ⟨b2, 1, none⟩ = some (.int .i64 B.ev) ∧ W.cell? ⟨b2, 2, none⟩ = some (.int .i64 B.sr) ∧ W.cell? ⟨b2, 3, none⟩ = some rb)
    (first | exact SS.out _ (Fr.refl _ _).drew | exact SS.out _ GP.out | exact SS.out _ GA.out | exact SS.out _ GB.out)
    ((first
      | (go_at_call 18; with_reducible refine Calls.mono (TQA.out _ ?hfr) ?_; (case hfr => first | exact (Fr.refl _ _).drew | exact GB.out); rintro e wA ⟨rva, rfl, tA, gA, GA⟩; replace tA := Lib.hid tA; replace gA := Lib.hid gA; replace GA := Lib.hid GA)
      | (go_at_call 18; with_reducible refine Calls.mono (TQB.out _ ?hfr) ?_; (case hfr => first | exact (Fr.refl _ _).drew | exact GA.out); rintro e wB ⟨rvb, rfl, tB, gB, GB⟩; replace tB := Lib.hid tB; replace gB := Lib.hid gB; replace GB := Lib.hid GB)
      | (go_at_call 30; with_reducible refine Calls.mono (RPQ.out wB rva rvb GB.out (tA.out.fr gB.out) tB.out) ?_; rintro e wP ⟨rfl, GP⟩; replace GP := Lib.hid GP)
      | (go_at_call 30; with_reducible refine Calls.mono (RPQ.out wA rva rvb GA.out tA.out (tB.out.fr gA.out)) ?_; rintro e wP ⟨rfl, GP⟩; replace GP := Lib.hid GP)))
  all_goals
    have SN := Lib.hid (sane_any wP)
    cases X1
    all_goals
      go_wp2_with fail
      refine SN.out.mono ?_
      rintro e w9 ⟨rfl, f9⟩
      have F9 := Lib.hid ((FQ.out.trans GP.out).trans f9)
      go_wp2_with fail
      go_ret
      exact ⟨rfl, F9.out⟩
end Go.Proofs.Ytnggimkkjdipmaa
