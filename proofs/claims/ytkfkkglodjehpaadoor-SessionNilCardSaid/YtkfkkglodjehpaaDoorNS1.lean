import Derived.Test.YtkfkkglodjehpaaDoorAgLaw
import Derived.Test.YtkfkkglodjehpaaDoorLib0
namespace Go.Proofs.YtkfkkglodjehpaaDoor
open Go.RowKit
set_option linter.unusedVariables false
set_option linter.unusedSimpArgs false
set_option maxHeartbeats 4000000
set_option maxRecDepth 20000
structure Ev where
  way : Int
  kind : Int
  a : Int
  b : Int
  c : Int
  data : ByteArray
def Ev.cells (e : Ev) : List Value := [.int .i64 e.way, .int .i64 e.kind, .int .i64 e.a, .int .i64 e.b, .int .i64 e.c, .string e.data]
def Ev.val (e : Ev) : Value := .agg #[.int .i64 e.way, .int .i64 e.kind, .int .i64 e.a, .int .i64 e.b, .int .i64 e.c, .string e.data]
abbrev TEv : TypeId := 45
abbrev TSess : TypeId := 63
/-- A side that is none: nil, or one that was not made. -/
def Zs (w : World) (v : Value) : Prop := v = .pointer none ∨ ∃ b, v = .pointer (some ⟨b, 0, none⟩) ∧ w.cell? ⟨b, 0, none⟩ = some (.int .i64 0)
theorem Zs.fr {w w' : World} {v : Value} (h : Zs w v) (hf : Fr [] w w') : Zs w' v := by
  rcases h with h | ⟨b, h, hc⟩
  · exact .inl h
  · exact .inr ⟨b, h, by rw [hf.cell (p := ⟨b, 0, none⟩) (World.block_lt_of_cell? w _ hc) (by simp)]; exact hc⟩
theorem none_any (v : Value) (w : World) (h : Zs w v) : Calls Tryd.prog 27 #[v] w fun e w' => e = .returned (.bool true) ∧ w = w' := by
  rcases h with rfl | ⟨b, rfl, hc⟩
  all_goals
    go_enter Tryd.func27, Tryd.ntmps27
    go_wp2_with fail
    go_ret
    exact ⟨rfl, rfl⟩
theorem on_none (v : Value) (ev : Ev) (w : World) (h : Zs w v) : Calls Tryd.prog 17 #[v, ev.val] w fun e w' => e = .returned (.tuple #[.slice none 0 0, .int .i64 1]) ∧ Fr [] w w' := by
  have N := Lib.hid (fun w' (f : Fr [] w w') => none_any v w' (h.fr f))
  obtain ⟨way, kind, a, b, c, d⟩ := ev
  dsimp only [Ev.val]
  clear h
  have f1 : Fr [] w (w.alloc (.cells #[.int .i64 way, .int .i64 kind, .int .i64 a, .int .i64 b, .int .i64 c, .string d] TEv)) := (Fr.refl [] w).alloc _
  have M := Lib.hid (N.out _ f1)
  go_enter Tryd.func17, Tryd.ntmps17
  go_wp2_with fail
  refine M.out.mono ?_
  rintro e w1 ⟨rfl, rfl⟩
  go_wp2_with fail
  go_ret2
  exact ⟨rfl, f1⟩
theorem point_none (v : Value) (w : World) (h : Zs w v) : Calls Tryd.prog 25 #[v] w fun e w' => e = .returned (.tuple #[.int .i64 0, .int .i64 0, .int .i64 0]) ∧ w = w' := by
  have N := Lib.hid (none_any v w h)
  clear h
  go_enter Tryd.func25, Tryd.ntmps25
  go_wp2_with fail
  refine N.out.mono ?_
  rintro e w1 ⟨rfl, rfl⟩
  go_wp2_with fail
  exact bodyPost_ret (v := .tuple #[.int .i64 0, .int .i64 0, .int .i64 0]) (by simp [results, Tryd.results25, go_sem]) rfl ⟨rfl, rfl⟩
theorem state_none (v : Value) (w : World) (h : Zs w v) : Calls Tryd.prog 11 #[v] w fun e w' => e = .returned (.int .i64 0) ∧ w = w' := by
  have N := Lib.hid (none_any v w h)
  clear h
  go_enter Tryd.func11, Tryd.ntmps11
  go_wp2_with fail
  refine N.out.mono ?_
  rintro e w1 ⟨rfl, rfl⟩
  go_wp2_with fail
  go_ret
  exact ⟨rfl, rfl⟩
theorem units_none (v : Value) (w : World) (h : Zs w v) : Calls Tryd.prog 14 #[v] w fun e w' => e = .returned (.int .i64 0) ∧ w = w' := by
  have N := Lib.hid (none_any v w h)
  clear h
  go_enter Tryd.func14, Tryd.ntmps14
  go_wp2_with fail
  refine N.out.mono ?_
  rintro e w1 ⟨rfl, rfl⟩
  go_wp2_with fail
  go_ret
  exact ⟨rfl, rfl⟩
theorem tokens_none (v : Value) (w : World) (h : Zs w v) : Calls Tryd.prog 13 #[v] w fun e w' => e = .returned (.int .i64 0) ∧ w = w' := by
  have N := Lib.hid (none_any v w h)
  clear h
  go_enter Tryd.func13, Tryd.ntmps13
  go_wp2_with fail
  refine N.out.mono ?_
  rintro e w1 ⟨rfl, rfl⟩
  go_wp2_with fail
  go_ret
  exact ⟨rfl, rfl⟩
theorem activity_none (v : Value) (w : World) (h : Zs w v) : Calls Tryd.prog 24 #[v] w fun e w' => e = .returned (.int .i64 0) ∧ w = w' := by
  have N := Lib.hid (none_any v w h)
  clear h
  go_enter Tryd.func24, Tryd.ntmps24
  go_wp2_with fail
  refine N.out.mono ?_
  rintro e w1 ⟨rfl, rfl⟩
  go_wp2_with fail
  go_ret
  exact ⟨rfl, rfl⟩
theorem may_none (v : Value) (k : Int) (w : World) (h : Zs w v) : Calls Tryd.prog 20 #[v, .int .i64 k] w fun e w' => e = .returned (.bool false) ∧ Fr [] w w' := by
  have N := Lib.hid (none_any v w h)
  clear h
  go_enter Tryd.func20, Tryd.ntmps20
  go_wp2_with fail
  refine N.out.mono ?_
  rintro e w1 ⟨rfl, rfl⟩
  go_wp2_with fail
  go_ret
  exact ⟨rfl, Fr.refl _ _⟩
theorem copy_none (v : Value) (w : World) (h : Zs w v) : Calls Tryd.prog 18 #[v] w fun e w' => e = .returned (.pointer none) ∧ w = w' := by
  have N := Lib.hid (none_any v w h)
  clear h
  go_enter Tryd.func18, Tryd.ntmps18
  go_wp2_with fail
  refine N.out.mono ?_
  rintro e w1 ⟨rfl, rfl⟩
  go_wp2_with fail
  go_ret
  exact ⟨rfl, rfl⟩
end Go.Proofs.YtkfkkglodjehpaaDoor
