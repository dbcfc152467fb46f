import Derived.Test.YthmjhndpcmpbkaaDoorLaw2
namespace Go.Proofs.YthmjhndpcmpbkaaDoor
open Go.RowKit
set_option linter.unusedVariables false
set_option linter.unusedSimpArgs false
set_option maxHeartbeats 2000000
set_option maxRecDepth 20000
/-- A side that there is not: nil, or made by nobody. -/
def noSide (w : World) (o : Option Addr) : Prop := o = none ∨ ∃ b, o = some ⟨b, 0, none⟩ ∧ Pt w b TSide (TS.cells ⟨false, 0, 0, 0, 0, 0, 0⟩)
theorem noSide.fr {w w' : World} {o : Option Addr} (h : noSide w o) (hf : Fr [] w w') : noSide w' o := h.imp id fun ⟨b, e, hp⟩ => ⟨b, e, hf.pt hp (by simp)⟩
theorem none_no (o : Option Addr) (w : World) (h : noSide w o) : Calls Tryd.prog 26 #[.pointer o] w fun e w' => e = .returned (.bool true) ∧ w = w' := by
  rcases h with rfl | ⟨b, rfl, hp⟩
  · exact tNone_nil w
  · exact tNone_any b _ w hp
theorem on_no (o : Option Addr) (e : Ev) (w : World) (h : noSide w o) : Calls Tryd.prog 13 #[.pointer o, e.val] w fun r w' => r = .returned (.tuple #[.slice none 0 0, .int .i64 1]) ∧ Fr [] w w' := by
  obtain ⟨way, kind, a, b, c, data⟩ := e
  have HN := Lib.hid (none_no o _ (h.fr ((Fr.refl [] w).alloc (.cells #[.int .i64 way, .int .i64 kind, .int .i64 a, .int .i64 b, .int .i64 c, .string data] TEv))))
  clear h
  dsimp only [Ev.val]
  go_enter Tryd.func13, Tryd.ntmps13
  go_wp2_with fail
  refine HN.out.mono ?_
  rintro e w' ⟨rfl, rfl⟩
  go_wp2
  go_ret2
  exact ⟨rfl, (Fr.refl [] w).alloc _⟩
theorem set_no (o : Option Addr) (m t : Int) (w : World) (h : noSide w o) : Calls Tryd.prog 20 #[.pointer o, .int .i64 m, .int .i64 t] w fun r w' => r = .returned (.int .i64 1) ∧ w = w' := by
  have HN := Lib.hid (none_no o w h)
  clear h
  go_enter Tryd.func20, Tryd.ntmps20
  go_wp2_with fail
  refine HN.out.mono ?_
  rintro e w' ⟨rfl, rfl⟩
  go_wp2
  go_ret
  exact ⟨rfl, rfl⟩
theorem mine_no (o : Option Addr) (w : World) (h : noSide w o) : Calls Tryd.prog 15 #[.pointer o] w fun r w' => r = .returned (.int .i64 0) ∧ w = w' := by
  have HN := Lib.hid (none_no o w h)
  clear h
  go_enter Tryd.func15, Tryd.ntmps15
  go_wp2_with fail
  refine HN.out.mono ?_
  rintro e w' ⟨rfl, rfl⟩
  go_wp2
  go_ret
  exact ⟨rfl, rfl⟩
theorem theirs_no (o : Option Addr) (w : World) (h : noSide w o) : Calls Tryd.prog 16 #[.pointer o] w fun r w' => r = .returned (.int .i64 0) ∧ w = w' := by
  have HN := Lib.hid (none_no o w h)
  clear h
  go_enter Tryd.func16, Tryd.ntmps16
  go_wp2_with fail
  refine HN.out.mono ?_
  rintro e w' ⟨rfl, rfl⟩
  go_wp2
  go_ret
  exact ⟨rfl, rfl⟩
theorem copy_no (o : Option Addr) (w : World) (h : noSide w o) : Calls Tryd.prog 12 #[.pointer o] w fun r w' => r = .returned (.pointer none) ∧ w = w' := by
  have HN := Lib.hid (none_no o w h)
  clear h
  go_enter Tryd.func12, Tryd.ntmps12
  go_wp2_with fail
  refine HN.out.mono ?_
  rintro e w' ⟨rfl, rfl⟩
  go_wp2
  go_ret
  exact ⟨rfl, rfl⟩
theorem may_no (o : Option Addr) (n : Int) (w : World) (h : noSide w o) : Calls Tryd.prog 22 #[.pointer o, .int .i64 n] w fun r w' => r = .returned (.bool false) ∧ w = w' := by
  have HN := Lib.hid (none_no o w h)
  clear h
  go_enter Tryd.func22, Tryd.ntmps22
  go_wp2_with fail
  refine HN.out.mono ?_
  rintro e w' ⟨rfl, rfl⟩
  go_wp2
  go_ret
  exact ⟨rfl, rfl⟩
theorem asked_no (o : Option Addr) (n : Int) (w : World) (h : noSide w o) : Calls Tryd.prog 21 #[.pointer o, .int .i64 n] w fun r w' => r = .returned (.tuple #[.int .i64 0, .int .i64 1]) ∧ w = w' := by
  have HN := Lib.hid (none_no o w h)
  clear h
  go_enter Tryd.func21, Tryd.ntmps21
  go_wp2_with fail
  refine HN.out.mono ?_
  rintro e w' ⟨rfl, rfl⟩
  go_wp2
  go_ret2
  exact ⟨rfl, rfl⟩
theorem nil_any (e : Ev) (n : Int) (w : World) (hT : Tab w) : Calls Tryd.prog 6 #[e.val, .int .i64 n] w fun r w' => r = .returned (.bool true) ∧ Fr [] w w' := by
  have hTl := hT.lt
  have hE := Pt.newA w TEv e.cells.toArray
  obtain ⟨w1, hw1⟩ : ∃ x, w.alloc (.cells e.cells.toArray TEv) = x := ⟨_, rfl⟩
  have f1 : Fr [] w w1 := by rw [← hw1]; exact (Fr.refl [] w).alloc _
  rw [hw1] at hE
  have hz := Pt.newA w1 TSide #[.bool false, .int .i64 0, .int .i64 0, .int .i64 0, .int .i64 0, .int .i64 0, .int .i64 0]
  obtain ⟨w2, hw2⟩ : ∃ x, w1.alloc (.cells #[.bool false, .int .i64 0, .int .i64 0, .int .i64 0, .int .i64 0, .int .i64 0, .int .i64 0] TSide) = x := ⟨_, rfl⟩
  have f2 : Fr [] w w2 := by rw [← hw2]; exact f1.alloc _
  have hE2 : Pt w2 w.heap.size TEv e.cells := by rw [← hw2]; exact hE.alloc _
  rw [hw2] at hz
  have hno : noSide w2 none := .inl rfl
  have hyes : noSide w2 (some ⟨w1.heap.size, 0, none⟩) := .inr ⟨_, rfl, hz⟩
  have hlt := hE2.lt
  have A1 := Lib.hid (fun w (h : noSide w none) => on_no none e w h)
  have A2 := Lib.hid (fun w (h : noSide w (some ⟨w1.heap.size, 0, none⟩)) => on_no _ e w h)
  obtain ⟨z, hzz⟩ : ∃ z, w1.heap.size = z := ⟨_, rfl⟩
  rw [hzz] at hyes A2
  obtain ⟨y, hyy⟩ : ∃ y, w.heap.size = y := ⟨_, rfl⟩
  rw [hyy] at hE2
  have cE := hE2.cell
  obtain ⟨way, kind, a, b, c, data⟩ := e
  dsimp only [Ev.val] at A1 A2 ⊢
  simp only [Ev.cells] at cE hw1
  replace hE2 := Lib.hid hE2
  clear hE hz
  replace hT := Lib.hid (hT.fr f2 (by simp) hTl)
  replace f2 := Lib.hid f2
  replace hno := Lib.hid hno
  replace hyes := Lib.hid hyes
  clear f1 hTl hlt
  go_enter Tryd.func6, Tryd.ntmps6
  go_wp2_with fail
  refine (A1.out w2 hno.out).mono ?_
  rintro e w3 ⟨rfl, f3⟩
  have cE3 := (f3.pt hE2.out (by simp)).cell
  simp only [Ev.cells] at cE3
  have g3 := Lib.hid (f2.out.trans f3)
  have T3 := Lib.hid (hT.out.fr f3 (by simp) hT.out.lt)
  have no3 := Lib.hid (hno.out.fr f3)
  have yes3 := Lib.hid (hyes.out.fr f3)
  clear f3 cE hT hno hyes f2 hE2 A1 hw2 hw1 hzz hyy
  go_wp2_with fail
  refine (A2.out w3 yes3.out).mono ?_
  rintro e w4 ⟨rfl, f4⟩
  have g4 := Lib.hid (g3.out.trans f4)
  have T4 := Lib.hid (T3.out.fr f4 (by simp) T3.out.lt)
  have no4 := no3.out.fr f4
  have yes4 := yes3.out.fr f4
  have B0 := Lib.hid (asked_no _ n w4 no4)
  have B1 := Lib.hid (set_no _ 1 2 w4 no4)
  have B2 := Lib.hid (set_no _ 1 2 w4 yes4)
  have B3 := Lib.hid (may_no _ n w4 no4)
  have B4 := Lib.hid (may_no _ n w4 yes4)
  have B5 := Lib.hid (mine_no _ w4 no4)
  have B6 := Lib.hid (theirs_no _ w4 no4)
  have B7 := Lib.hid (copy_no _ w4 no4)
  have B8 := Lib.hid (copy_no _ w4 yes4)
  clear f4 cE3 T3 no3 yes3 g3 A2 no4 yes4
  go_wp2_with fail
  refine B0.out.mono ?_
  rintro e w' ⟨rfl, rfl⟩
  go_wp2_with fail
  refine B1.out.mono ?_
  rintro e w' ⟨rfl, rfl⟩
  go_wp2_with fail
  refine B2.out.mono ?_
  rintro e w' ⟨rfl, rfl⟩
  go_wp2_with fail
  refine B3.out.mono ?_
  rintro e w' ⟨rfl, rfl⟩
  go_wp2_with fail
  refine B4.out.mono ?_
  rintro e w' ⟨rfl, rfl⟩
  go_wp2_with fail
  refine B5.out.mono ?_
  rintro e w' ⟨rfl, rfl⟩
  go_wp2_with fail
  refine B6.out.mono ?_
  rintro e w' ⟨rfl, rfl⟩
  go_wp2_with fail
  refine B7.out.mono ?_
  rintro e w' ⟨rfl, rfl⟩
  go_wp2_with fail
  refine B8.out.mono ?_
  rintro e w' ⟨rfl, rfl⟩
  go_wp2_with fail
  refine (sane_any w4 T4.out).mono ?_
  rintro e w' ⟨rfl, f5⟩
  go_wp2
  go_ret
  exact ⟨rfl, g4.out.trans f5⟩
end Go.Proofs.YthmjhndpcmpbkaaDoor
