import Derived.Test.YtkkmjjddalpocaaDoorLaw1
namespace Go.Proofs.YtkkmjjddalpocaaDoor
open Go.RowKit
set_option linter.unusedVariables false
set_option linter.unusedSimpArgs false
set_option maxHeartbeats 2000000
/-- On, an event that is fine, told as what comes of it. -/
theorem on_is (b : Nat) (s s' : TS) (e e' : Ev) (c : Int) (w : World) (hp : Pt w b TSide s.cells) (hT : Tab w) (hg : Good s) (he : (if onFine e then onSt s e else (s, [], 1)) = (s', [e'], c)) :
    Calls Tryd.prog 13 #[.pointer (some ⟨b, 0, none⟩), e.val] w fun r w' => ∃ B, r = .returned (.tuple #[.slice (some ⟨B, 0, none⟩) 1 1, .int .i64 c]) ∧ w.heap.size ≤ B ∧ Pt w' B TEv e'.cells ∧ Pt w' b TSide s'.cells ∧ Fr [b] w w' := by
  refine (on_any b s e w hp hT hg).mono ?_
  rintro r w' ⟨⟨v, rfl, hv⟩, h2, h3⟩
  rw [he] at hv h2 ⊢
  rcases hv with ⟨_, h⟩ | ⟨B, x, rfl, h, hx, hB⟩
  · cases h
  · cases h
    exact ⟨B, rfl, hB, hx, h2, h3⟩
theorem sane_any (w : World) (hT : Tab w) : Calls Tryd.prog 11 #[] w fun e w' => e = .returned (.bool true) ∧ Fr [] w w' := by
  have hTl := hT.lt
  go_enter Tryd.func11, Tryd.ntmps11
  go_wp2_with fail
  refine (tNew_ok 1 2 w (by decide +kernel)).mono ?_
  rintro e w1 ⟨rfl, p1, f1⟩
  go_wp2_with fail
  refine (tNew_ok 2 1 w1 (by decide +kernel)).mono ?_
  rintro e w2 ⟨rfl, p2, f2⟩
  have hab : w.heap.size < w1.heap.size := p1.lt
  have p1' := f2.pt p1 (by simp)
  have f02 := f1.trans f2
  have T2 := hT.fr f02 (by simp) hTl
  obtain ⟨b1, hb1⟩ : ∃ b, w.heap.size = b := ⟨_, rfl⟩
  obtain ⟨b2, hb2⟩ : ∃ b, w1.heap.size = b := ⟨_, rfl⟩
  have hne : b1 ≠ b2 := by omega
  rw [hb1] at p1'; rw [hb2] at p2; simp only [hb1, hb2]
  go_wp2_with fail
  refine (on_is b1 _ ⟨true, 1, 2, -1, -1, -1, -1⟩ ⟨0, 1, 2, 3, 0, ByteArray.empty⟩ ⟨1, 1, 2, 3, 0, ByteArray.empty⟩ 0 w2 p1' T2 (by unfold Good; decide) (by rfl)).mono ?_
  rintro e w3 ⟨B1, rfl, l1, x3, q1, f3⟩
  have q2 := f3.pt p2 (by simp; omega)
  have T3 := T2.fr f3 (by have := T2.ne p1' (by simp [TS.cells]); simpa using this.symm) T2.lt
  go_wp2_with fail
  refine (on_is b2 _ ⟨true, 2, 1, -1, 3, -1, -1⟩ ⟨1, 1, 2, 3, 0, ByteArray.empty⟩ ⟨0, 1, 2, 3, 0, ByteArray.empty⟩ 0 w3 q2 T3 (by unfold Good; decide) (by rfl)).mono ?_
  rintro e w4 ⟨B2, rfl, l2, y4, r2, f4⟩
  have s2 := p2.lt
  have s1 := p1'.lt
  have s3 := x3.lt
  have r1 := f4.pt q1 (by simp; omega)
  have x4 := f4.pt x3 (by simp; omega)
  have T4 := T3.fr f4 (by have := T3.ne q2 (by simp [TS.cells]); simpa using this.symm) T3.lt
  go_wp2_with fail
  refine (on_is b2 _ ⟨true, 0, 3, -1, -1, -1, -1⟩ ⟨0, 2, 2, 0, 0, ByteArray.empty⟩ ⟨1, 2, 2, 0, 0, ByteArray.empty⟩ 0 w4 r2 T4 (by unfold Good; decide) (by rfl)).mono ?_
  rintro e w5 ⟨B3, rfl, l3, z5, u2, f5⟩
  have s4 := y4.lt
  have z3 := f3.size
  have z4 := f4.size
  have u1 := f5.pt r1 (by simp; omega)
  have x5 := f5.pt x4 (by simp; omega)
  have y5 := f5.pt y4 (by simp; omega)
  have hf : Fr [] w w5 := by
    have g3 : Fr [] w w3 := f02.step f3 (by intro x hx; simp at hx; omega)
    have g4 : Fr [] w w4 := g3.step f4 (by intro x hx; simp at hx; omega)
    exact g4.step f5 (by intro x hx; simp at hx; omega)
  have m2 := Lib.hid (tMine_any b2 _ w5 u2)
  have t2 := Lib.hid (tTheirs_any b2 _ w5 u2)
  have m1 := Lib.hid (tMine_any b1 _ w5 u1)
  have cx := x5.cell
  have cy := y5.cell
  simp only [Ev.cells] at cx cy
  simp only [if_true] at m1 m2 t2
  clear f5 f4 f3 f2 f1 f02 x5 y5 u1 u2 p1 p2 p1' q1 q2 r1 r2 x3 x4 y4 z5 T2 T3 T4
  have h01 : (0 : Int) < 1 := by omega
  go_wp2_with fail
  refine m2.out.mono ?_
  rintro e w' ⟨rfl, rfl⟩
  go_wp2_with fail
  refine t2.out.mono ?_
  rintro e w' ⟨rfl, rfl⟩
  go_wp2_with fail
  refine m1.out.mono ?_
  rintro e w' ⟨rfl, rfl⟩
  go_wp2
  go_ret
  exact ⟨rfl, hf⟩
end Go.Proofs.YtkkmjjddalpocaaDoor
