import Derived.Test.YtkfkkglodjehpaaDoorNS1
namespace Go.Proofs.YtkfkkglodjehpaaDoor
open Go.RowKit
set_option linter.unusedVariables false
set_option linter.unusedSimpArgs false
set_option maxHeartbeats 4000000
set_option maxRecDepth 20000
theorem nil_any (ev : Ev) (w : World) : Calls Tryd.prog 8 #[ev.val] w fun e w' => e = .returned (.bool true) ∧ Fr [] w w' := by
  obtain ⟨way, kind, a, b, c, d⟩ := ev
  dsimp only [Ev.val]
  obtain ⟨w0, hw0⟩ : ∃ x, w.alloc (.cells #[.int .i64 way, .int .i64 kind, .int .i64 a, .int .i64 b, .int .i64 c, .string d] TEv) = x := ⟨_, rfl⟩
  have P0 := Pt.newA w TEv #[.int .i64 way, .int .i64 kind, .int .i64 a, .int .i64 b, .int .i64 c, .string d]
  rw [hw0] at P0
  have F0 : Fr [] w w0 := by rw [← hw0]; exact (Fr.refl [] w).alloc _
  obtain ⟨be, hbe⟩ : ∃ x, w.heap.size = x := ⟨_, rfl⟩
  rw [hbe] at P0
  obtain ⟨cs, hcs⟩ : ∃ x : Array Value, x = #[.int .i64 0, .int .i64 0, .int .i64 0, .int .i64 0, .int .i64 0, .bool false, .pointer none, .pointer none, .int .i64 0, .bool false, .int .i64 0, .bool false, .bool false, .bool false, .bool false, .bool false, .bool false, .slice none 0 0] := ⟨_, rfl⟩
  obtain ⟨w1, hw1⟩ : ∃ x, w0.alloc (.cells #[.int .i64 0, .int .i64 0, .int .i64 0, .int .i64 0, .int .i64 0, .bool false, .pointer none, .pointer none, .int .i64 0, .bool false, .int .i64 0, .bool false, .bool false, .bool false, .bool false, .bool false, .bool false, .slice none 0 0] TSess) = x := ⟨_, rfl⟩
  have P1 := Pt.newA w0 TSess #[.int .i64 0, .int .i64 0, .int .i64 0, .int .i64 0, .int .i64 0, .bool false, .pointer none, .pointer none, .int .i64 0, .bool false, .int .i64 0, .bool false, .bool false, .bool false, .bool false, .bool false, .bool false, .slice none 0 0]
  rw [hw1] at P1
  have F1 : Fr [] w0 w1 := by rw [← hw1]; exact (Fr.refl [] w0).alloc _
  obtain ⟨bz, hbz⟩ : ∃ x, w0.heap.size = x := ⟨_, rfl⟩
  rw [hbz] at P1
  have Z1 : Zs w1 (.pointer (some ⟨bz, 0, none⟩)) := .inr ⟨bz, rfl, P1.cell 0⟩
  have Pe := F1.pt P0 (by simp)
  have ce := Pe.cell
  have FF := F0.trans F1
  have n1 := fun w' => Lib.hid (on_none (.pointer none) ⟨way, kind, a, b, c, d⟩ w' (.inl rfl))
  have n2 := fun w' (f : Fr [] w1 w') => Lib.hid (on_none (.pointer (some ⟨bz, 0, none⟩)) ⟨way, kind, a, b, c, d⟩ w' (Z1.fr f))
  dsimp only [Ev.val] at n1 n2
  have p1 := fun w' => point_none (.pointer none) w' (.inl rfl)
  have p2 := fun w' => state_none (.pointer none) w' (.inl rfl)
  have p3 := fun w' => units_none (.pointer none) w' (.inl rfl)
  have p4 := fun w' => tokens_none (.pointer none) w' (.inl rfl)
  have p5 := fun w' => activity_none (.pointer none) w' (.inl rfl)
  have p6 := fun w' => may_none (.pointer none) kind w' (.inl rfl)
  have p7 := fun w' (f : Fr [] w1 w') => may_none (.pointer (some ⟨bz, 0, none⟩)) kind w' (Z1.fr f)
  have p8 := fun w' => copy_none (.pointer none) w' (.inl rfl)
  have p9 := fun w' (f : Fr [] w1 w') => copy_none (.pointer (some ⟨bz, 0, none⟩)) w' (Z1.fr f)
  have EE := fun w' (f : Fr [] w1 w') => (f.pt Pe (by simp)).cell
  have n1' := Lib.hid n1; have n2' := Lib.hid n2
  clear n1 n2 hcs
  replace p1 := Lib.hid p1; replace p2 := Lib.hid p2; replace p3 := Lib.hid p3; replace p4 := Lib.hid p4; replace p5 := Lib.hid p5; replace p6 := Lib.hid p6; replace p7 := Lib.hid p7; replace p8 := Lib.hid p8; replace p9 := Lib.hid p9; replace EE := Lib.hid EE
  replace P0 := Lib.hid P0; replace P1 := Lib.hid P1; replace F0 := Lib.hid F0; replace F1 := Lib.hid F1; replace Z1 := Lib.hid Z1; replace Pe := Lib.hid Pe; replace FF := Lib.hid FF
  go_enter Tryd.func8, Tryd.ntmps8
  go_wp2_with fail
  refine (n1'.out _).out.mono ?_
  rintro e w2 ⟨rfl, f2⟩
  have G2 := Lib.hid f2
  have ce2 := EE.out _ f2
  clear f2 ce
  go_wp2_with fail
  refine (n2'.out _ G2.out).out.mono ?_
  rintro e w3 ⟨rfl, f3⟩
  have G3 := Lib.hid (G2.out.trans f3)
  have ce3 := EE.out _ G3.out
  clear f3 ce2
  go_wp2_with fail
  refine (p1.out _).mono ?_
  rintro e w4 ⟨rfl, rfl⟩
  go_wp2_with fail
  refine (p2.out _).mono ?_
  rintro e w4 ⟨rfl, rfl⟩
  go_wp2_with fail
  refine (p3.out _).mono ?_
  rintro e w4 ⟨rfl, rfl⟩
  go_wp2_with fail
  refine (p4.out _).mono ?_
  rintro e w4 ⟨rfl, rfl⟩
  go_wp2_with fail
  refine (p5.out _).mono ?_
  rintro e w4 ⟨rfl, rfl⟩
  go_wp2_with fail
  refine (p6.out _).mono ?_
  rintro e w4 ⟨rfl, f4⟩
  have G4 := Lib.hid (G3.out.trans f4)
  have ce4 := EE.out _ G4.out
  clear f4 ce3
  go_wp2_with fail
  refine (p7.out _ G4.out).mono ?_
  rintro e w5 ⟨rfl, f5⟩
  have G5 := Lib.hid (G4.out.trans f5)
  clear f5 ce4
  go_wp2_with fail
  refine (p8.out _).mono ?_
  rintro e w6 ⟨rfl, rfl⟩
  go_wp2_with fail
  refine (p9.out _ G5.out).mono ?_
  rintro e w6 ⟨rfl, rfl⟩
  go_wp2_with fail
  refine (sane_any _).mono ?_
  rintro e w6 ⟨rfl, b6⟩
  have G6 := Lib.hid (FF.out.trans (G5.out.trans (Fr.ofBelow b6)))
  clear b6
  go_wp2_with fail
  go_ret
  exact ⟨rfl, G6.out⟩
end Go.Proofs.YtkfkkglodjehpaaDoor
