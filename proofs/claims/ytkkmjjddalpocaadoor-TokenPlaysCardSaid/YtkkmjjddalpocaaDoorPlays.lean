import Derived.Test.YtkkmjjddalpocaaDoorRefP3
namespace Go.Proofs.YtkkmjjddalpocaaDoor
open Go.RowKit
set_option linter.unusedVariables false
set_option linter.unusedSimpArgs false
set_option maxHeartbeats 4000000
set_option maxRecDepth 20000
theorem rplay_law (m t : Int) (dv : Value) (ds : List Int) (w : World) (hD : IntArg w dv ds) :
    Calls Tryd.prog 24 #[.int .i64 m, .int .i64 t, dv] w (PlayPost (playP m t ds) w) := by
  by_cases h : setOk m t = true ∧ ds.length ≤ 300
  · exact rplay_any m t dv ds w hD h.1 h.2
  · have : playP m t ds = (0, 0, 0, 1) := if_neg h
    rw [this]
    refine rplay_bad m t dv ds w hD ?_
    cases hs : setOk m t
    · exact .inl rfl
    · exact .inr (by rw [hs] at h; simp at h; omega)
theorem IntArg.fr {w w' : World} {v : Value} {l : List Int} (h : IntArg w v l) (hf : Fr [] w w') : IntArg w' v l := by
  obtain ⟨o, cap, h1, h2, h3⟩ := h
  refine ⟨o, cap, h1, h2, fun i hi => ?_⟩
  obtain ⟨b, off, e, hb, hc⟩ := h3 i hi
  exact ⟨b, off, e, Nat.lt_of_lt_of_le hb hf.size, by rw [hf.cell (p := ⟨b, off + i, none⟩) hb (by simp)]; exact hc⟩
theorem plays_any (m t : Int) (lv : Value) (ds : List Int) (w : World) (hT : Tab w) (hD : IntArg w lv ds) :
    Calls Tryd.prog 7 #[.int .i64 m, .int .i64 t, lv] w fun e w' => e = .returned (.bool true) ∧ Fr [] w w' := by
  have hP := play_law m t lv ds w hT hD
  have hR := fun w' (hf : Fr [] w w') => rplay_law m t lv ds w' (hD.fr hf)
  obtain ⟨⟨A, B, W, E⟩, hpp⟩ : ∃ R, playP m t ds = R := ⟨_, rfl⟩
  rw [hpp] at hP
  simp only [hpp] at hR
  replace hP := Lib.hid hP; replace hR := Lib.hid hR; replace hT := Lib.hid hT
  clear hD hpp
  go_enter Tryd.func7, Tryd.ntmps7
  go_wp2_with fail
  refine hP.out.mono ?_
  rintro e w1 ⟨rfl, f1⟩
  have F1 : Fr [] w w1 := Fr.ofBelow f1
  obtain ⟨w2, hw2⟩ : ∃ x, w1.alloc (.cells #[.int .i64 A, .int .i64 B] 53) = x := ⟨_, rfl⟩
  have P2 := Pt.newA w1 53 #[.int .i64 A, .int .i64 B]
  rw [hw2] at P2
  have F2 : Fr [] w w2 := by rw [← hw2]; exact F1.alloc _
  have R2 := Lib.hid (hR.out w2 F2)
  obtain ⟨b1, hb1⟩ : ∃ x, w1.heap.size = x := ⟨_, rfl⟩
  rw [hb1] at P2
  replace P2 := Lib.hid P2; replace F2 := Lib.hid F2
  clear f1 F1 hP hR
  dsimp only
  go_wp2_with fail
  refine R2.out.mono ?_
  rintro e w3 ⟨rfl, f3⟩
  have F3 : Fr [] w2 w3 := Fr.ofBelow f3
  have P3 := F3.pt P2.out (by simp)
  have F23 := F2.out.trans F3
  obtain ⟨w4, hw4⟩ : ∃ x, w3.alloc (.cells #[.int .i64 A, .int .i64 B] 53) = x := ⟨_, rfl⟩
  have P4 := Pt.newA w3 53 #[.int .i64 A, .int .i64 B]
  rw [hw4] at P4
  have F4 : Fr [] w3 w4 := by rw [← hw4]; exact (Fr.refl [] w3).alloc _
  have P34 := F4.pt P3 (by simp)
  have F := F23.trans F4
  have S4 := Lib.hid (sane_any w4 (hT.out.fr F (by simp) hT.out.lt))
  have c3 := P34.cell
  have c4 := P4.cell
  replace F := Lib.hid F
  clear R2 f3 F3 F23 F4 P3 P34 P4 P2 F2
  dsimp only
  go_wp2_with fail
  rw [eq_pair, show ((A == A) && (B == B)) = true by simp, Result.andThen_ok]
  go_wp2_with fail
  refine S4.out.mono ?_
  rintro e w5 ⟨rfl, f5⟩
  go_wp2
  go_ret
  exact ⟨rfl, F.out.trans f5⟩
end Go.Proofs.YtkkmjjddalpocaaDoor
