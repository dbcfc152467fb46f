import Derived.Test.YtkfkkglodjehpaaOR
import Derived.Test.YtkfkkglodjehpaaTC7
import Derived.Test.YtkfkkglodjehpaaRSame
namespace Go.Proofs.Ytkfkkglodjehpaa
open Go.RowKit
set_option linter.unusedVariables false
set_option linter.unusedSimpArgs false
set_option maxHeartbeats 16000000
set_option maxRecDepth 100000
/-! ### The table of sessions -/
def sesB : List (List (Int × Int)) := [[(0, 0), (0, 0), (0, 0), (0, 0), (0, 0), (0, 0), (0, 0), (0, 0), (0, 0), (0, 0), (0, 0), (0, 0)], [(1, 0), (1, 0), (1, 0), (1, 0), (1, 0), (1, 0), (1, 0), (6, 1), (6, 3), (6, 3), (6, 3), (6, 2)], [(2, 0), (2, 0), (2, 0), (2, 0), (2, 0), (2, 0), (2, 0), (6, 1), (6, 3), (6, 3), (6, 3), (6, 2)], [(3, 0), (3, 0), (3, 0), (3, 0), (3, 0), (3, 0), (3, 0), (6, 1), (6, 3), (6, 3), (6, 3), (6, 2)], [(4, 0), (4, 0), (4, 0), (4, 0), (4, 0), (4, 0), (4, 0), (6, 1), (6, 3), (6, 3), (6, 3), (6, 2)], [(5, 0), (5, 0), (5, 0), (5, 0), (5, 0), (5, 0), (5, 0), (6, 1), (6, 3), (6, 3), (6, 3), (6, 2)], [(6, 0), (6, 0), (6, 0), (6, 0), (6, 0), (6, 0), (6, 0), (6, 0), (6, 0), (6, 0), (6, 0), (6, 0)]]
def sesR : List (List (Int × Int)) := [[(1, 1), (0, 0), (0, 0), (0, 0), (0, 0), (0, 0), (0, 0), (0, 0), (2, 2), (0, 0), (0, 0), (0, 0)], [(1, 0), (1, 0), (1, 0), (1, 0), (1, 0), (1, 0), (1, 0), (6, 1), (6, 3), (3, 2), (6, 3), (6, 2)], [(2, 0), (3, 1), (6, 1), (2, 0), (2, 0), (2, 0), (2, 0), (6, 1), (6, 3), (6, 3), (6, 3), (6, 2)], [(3, 0), (3, 0), (3, 0), (3, 1), (4, 1), (3, 0), (3, 0), (6, 1), (6, 3), (6, 3), (5, 2), (6, 2)], [(4, 0), (4, 0), (4, 0), (4, 0), (4, 0), (4, 0), (4, 0), (6, 1), (6, 3), (6, 3), (5, 2), (6, 2)], [(5, 0), (5, 0), (5, 0), (5, 0), (5, 0), (6, 1), (3, 1), (6, 1), (6, 3), (6, 3), (6, 3), (6, 2)], [(6, 0), (6, 0), (6, 0), (6, 0), (6, 0), (6, 0), (6, 0), (6, 0), (6, 0), (6, 0), (6, 0), (6, 0)]]
def sesT : Tb := ⟨7, 12, 0, sesR⟩
theorem sesT_valid : validT sesT = true := by decide +kernel
theorem sesT_miss : missL sesT = [] := by decide +kernel
theorem from_t (s n o : Int) (w : World) : Calls Try.prog 19 #[.int .i64 s, .bool true, .int .i64 n, .int .i64 o] w fun e w' => e = .returned (.agg #[.int .i64 n, .int .i64 o]) ∧ Fr [] w w' := by
  obtain ⟨w1, hw1⟩ : ∃ x, w.alloc (.cells #[.int .i64 n, .int .i64 o] RRow) = x := ⟨_, rfl⟩
  have P1 := Pt.newA w RRow #[.int .i64 n, .int .i64 o]
  rw [hw1] at P1
  have F1 : Fr [] w w1 := by rw [← hw1]; exact (Fr.refl [] w).alloc _
  obtain ⟨b1, hb1⟩ : ∃ x, w.heap.size = x := ⟨_, rfl⟩
  rw [hb1] at P1
  have k1 := P1.cell
  have hw1' := Lib.hid hw1
  clear hw1
  replace P1 := Lib.hid P1; replace F1 := Lib.hid F1
  go_enter Try.func19, Try.ntmps19
  go_wp2_with fail
  rw [hw1'.out]
  refine bodyPost_ret (v := .agg #[.int .i64 n, .int .i64 o]) (by simp [results, Try.results19, go_sem, k1]) rfl ⟨rfl, F1.out⟩
theorem from_f (s n o : Int) (w : World) : Calls Try.prog 19 #[.int .i64 s, .bool false, .int .i64 n, .int .i64 o] w fun e w' => e = .returned (.agg #[.int .i64 s, .int .i64 0]) ∧ Fr [] w w' := by
  obtain ⟨w1, hw1⟩ : ∃ x, w.alloc (.cells #[.int .i64 s, .int .i64 0] RRow) = x := ⟨_, rfl⟩
  have P1 := Pt.newA w RRow #[.int .i64 s, .int .i64 0]
  rw [hw1] at P1
  have F1 : Fr [] w w1 := by rw [← hw1]; exact (Fr.refl [] w).alloc _
  obtain ⟨b1, hb1⟩ : ∃ x, w.heap.size = x := ⟨_, rfl⟩
  rw [hb1] at P1
  have k1 := P1.cell
  have hw1' := Lib.hid hw1
  clear hw1
  replace P1 := Lib.hid P1; replace F1 := Lib.hid F1
  go_enter Try.func19, Try.ntmps19
  go_wp2_with fail
  rw [hw1'.out]
  refine bodyPost_ret (v := .agg #[.int .i64 s, .int .i64 0]) (by simp [results, Try.results19, go_sem, k1]) rfl ⟨rfl, F1.out⟩
theorem row_0_0 (w : World) : Calls Try.prog 12 #[.int .i64 0, .int .i64 0] w fun e w' => e = .returned (.agg #[.int .i64 1, .int .i64 1]) ∧ Fr [] w w' := by
  obtain ⟨w1, hw1⟩ : ∃ x, w.alloc (.cells #[.int .i64 0, .int .i64 0] RRow) = x := ⟨_, rfl⟩
  have P1 := Pt.newA w RRow #[.int .i64 0, .int .i64 0]
  rw [hw1] at P1
  have F1 : Fr [] w w1 := by rw [← hw1]; exact (Fr.refl [] w).alloc _
  obtain ⟨b1, hb1⟩ : ∃ x, w.heap.size = x := ⟨_, rfl⟩
  rw [hb1] at P1
  have l1 := P1.lt
  have wb : w.heap.size ≤ b1 := by omega
  have FT := fun s n o => from_t s n o w1
  have FF := fun s n o => from_f s n o w1
  replace P1 := Lib.hid P1; replace F1 := Lib.hid F1; replace FT := Lib.hid FT; replace FF := Lib.hid FF
  go_enter Try.func12, Try.ntmps12
  go_wp2_with fail
  refine (FT.out _ _ _).mono ?_
  rintro e w2 ⟨rfl, f2⟩
  have p2 := f2.pt P1.out (by simp)
  have c2 := p2.cell
  have z2 := p2.free
  have p3 := (p2.set 0 (.int .i64 1)).set 1 (.int .i64 1)
  have f3 : Fr [b1] w2 ((w2.setCell ⟨b1, 0, none⟩ (.int .i64 1)).setCell ⟨b1, 1, none⟩ (.int .i64 1)) := ((Fr.refl _ w2).setCell (by simp) _).setCell (by simp) _
  obtain ⟨w3, hw3⟩ : ∃ x, (w2.setCell ⟨b1, 0, none⟩ (.int .i64 1)).setCell ⟨b1, 1, none⟩ (.int .i64 1) = x := ⟨_, rfl⟩
  rw [hw3] at p3 f3
  simp only [List.set_cons_zero, List.set_cons_succ] at p3
  have k3 := p3.cell
  have F3 := (F1.out.trans f2).step f3 (fun q hq => .inr (by simp at hq; omega))
  clear hw1 hb1
  replace p2 := Lib.hid p2; replace p3 := Lib.hid p3; replace f2 := Lib.hid f2; replace f3 := Lib.hid f3; replace F3 := Lib.hid F3
  go_wp2_with fail
  refine bodyPost_ret (v := .agg #[.int .i64 1, .int .i64 1]) (by simp [results, Try.results12, go_sem, k3]) rfl ⟨rfl, F3.out⟩
theorem row_1_0 (w : World) : Calls Try.prog 12 #[.int .i64 1, .int .i64 0] w fun e w' => e = .returned (.agg #[.int .i64 1, .int .i64 0]) ∧ Fr [] w w' := by
  obtain ⟨w1, hw1⟩ : ∃ x, w.alloc (.cells #[.int .i64 0, .int .i64 0] RRow) = x := ⟨_, rfl⟩
  have P1 := Pt.newA w RRow #[.int .i64 0, .int .i64 0]
  rw [hw1] at P1
  have F1 : Fr [] w w1 := by rw [← hw1]; exact (Fr.refl [] w).alloc _
  obtain ⟨b1, hb1⟩ : ∃ x, w.heap.size = x := ⟨_, rfl⟩
  rw [hb1] at P1
  have l1 := P1.lt
  have wb : w.heap.size ≤ b1 := by omega
  have FT := fun s n o => from_t s n o w1
  have FF := fun s n o => from_f s n o w1
  replace P1 := Lib.hid P1; replace F1 := Lib.hid F1; replace FT := Lib.hid FT; replace FF := Lib.hid FF
  go_enter Try.func12, Try.ntmps12
  go_wp2_with fail
  refine (FF.out _ _ _).mono ?_
  rintro e w2 ⟨rfl, f2⟩
  have p2 := f2.pt P1.out (by simp)
  have c2 := p2.cell
  have z2 := p2.free
  have p3 := (p2.set 0 (.int .i64 1)).set 1 (.int .i64 0)
  have f3 : Fr [b1] w2 ((w2.setCell ⟨b1, 0, none⟩ (.int .i64 1)).setCell ⟨b1, 1, none⟩ (.int .i64 0)) := ((Fr.refl _ w2).setCell (by simp) _).setCell (by simp) _
  obtain ⟨w3, hw3⟩ : ∃ x, (w2.setCell ⟨b1, 0, none⟩ (.int .i64 1)).setCell ⟨b1, 1, none⟩ (.int .i64 0) = x := ⟨_, rfl⟩
  rw [hw3] at p3 f3
  simp only [List.set_cons_zero, List.set_cons_succ] at p3
  have k3 := p3.cell
  have F3 := (F1.out.trans f2).step f3 (fun q hq => .inr (by simp at hq; omega))
  clear hw1 hb1
  replace p2 := Lib.hid p2; replace p3 := Lib.hid p3; replace f2 := Lib.hid f2; replace f3 := Lib.hid f3; replace F3 := Lib.hid F3
  go_wp2_with fail
  refine bodyPost_ret (v := .agg #[.int .i64 1, .int .i64 0]) (by simp [results, Try.results12, go_sem, k3]) rfl ⟨rfl, F3.out⟩
theorem row_2_0 (w : World) : Calls Try.prog 12 #[.int .i64 2, .int .i64 0] w fun e w' => e = .returned (.agg #[.int .i64 2, .int .i64 0]) ∧ Fr [] w w' := by
  obtain ⟨w1, hw1⟩ : ∃ x, w.alloc (.cells #[.int .i64 0, .int .i64 0] RRow) = x := ⟨_, rfl⟩
  have P1 := Pt.newA w RRow #[.int .i64 0, .int .i64 0]
  rw [hw1] at P1
  have F1 : Fr [] w w1 := by rw [← hw1]; exact (Fr.refl [] w).alloc _
  obtain ⟨b1, hb1⟩ : ∃ x, w.heap.size = x := ⟨_, rfl⟩
  rw [hb1] at P1
  have l1 := P1.lt
  have wb : w.heap.size ≤ b1 := by omega
  have FT := fun s n o => from_t s n o w1
  have FF := fun s n o => from_f s n o w1
  replace P1 := Lib.hid P1; replace F1 := Lib.hid F1; replace FT := Lib.hid FT; replace FF := Lib.hid FF
  go_enter Try.func12, Try.ntmps12
  go_wp2_with fail
  refine (FF.out _ _ _).mono ?_
  rintro e w2 ⟨rfl, f2⟩
  have p2 := f2.pt P1.out (by simp)
  have c2 := p2.cell
  have z2 := p2.free
  have p3 := (p2.set 0 (.int .i64 2)).set 1 (.int .i64 0)
  have f3 : Fr [b1] w2 ((w2.setCell ⟨b1, 0, none⟩ (.int .i64 2)).setCell ⟨b1, 1, none⟩ (.int .i64 0)) := ((Fr.refl _ w2).setCell (by simp) _).setCell (by simp) _
  obtain ⟨w3, hw3⟩ : ∃ x, (w2.setCell ⟨b1, 0, none⟩ (.int .i64 2)).setCell ⟨b1, 1, none⟩ (.int .i64 0) = x := ⟨_, rfl⟩
  rw [hw3] at p3 f3
  simp only [List.set_cons_zero, List.set_cons_succ] at p3
  have k3 := p3.cell
  have F3 := (F1.out.trans f2).step f3 (fun q hq => .inr (by simp at hq; omega))
  clear hw1 hb1
  replace p2 := Lib.hid p2; replace p3 := Lib.hid p3; replace f2 := Lib.hid f2; replace f3 := Lib.hid f3; replace F3 := Lib.hid F3
  go_wp2_with fail
  refine bodyPost_ret (v := .agg #[.int .i64 2, .int .i64 0]) (by simp [results, Try.results12, go_sem, k3]) rfl ⟨rfl, F3.out⟩
theorem row_3_0 (w : World) : Calls Try.prog 12 #[.int .i64 3, .int .i64 0] w fun e w' => e = .returned (.agg #[.int .i64 3, .int .i64 0]) ∧ Fr [] w w' := by
  obtain ⟨w1, hw1⟩ : ∃ x, w.alloc (.cells #[.int .i64 0, .int .i64 0] RRow) = x := ⟨_, rfl⟩
  have P1 := Pt.newA w RRow #[.int .i64 0, .int .i64 0]
  rw [hw1] at P1
  have F1 : Fr [] w w1 := by rw [← hw1]; exact (Fr.refl [] w).alloc _
  obtain ⟨b1, hb1⟩ : ∃ x, w.heap.size = x := ⟨_, rfl⟩
  rw [hb1] at P1
  have l1 := P1.lt
  have wb : w.heap.size ≤ b1 := by omega
  have FT := fun s n o => from_t s n o w1
  have FF := fun s n o => from_f s n o w1
  replace P1 := Lib.hid P1; replace F1 := Lib.hid F1; replace FT := Lib.hid FT; replace FF := Lib.hid FF
  go_enter Try.func12, Try.ntmps12
  go_wp2_with fail
  refine (FF.out _ _ _).mono ?_
  rintro e w2 ⟨rfl, f2⟩
  have p2 := f2.pt P1.out (by simp)
  have c2 := p2.cell
  have z2 := p2.free
  have p3 := (p2.set 0 (.int .i64 3)).set 1 (.int .i64 0)
  have f3 : Fr [b1] w2 ((w2.setCell ⟨b1, 0, none⟩ (.int .i64 3)).setCell ⟨b1, 1, none⟩ (.int .i64 0)) := ((Fr.refl _ w2).setCell (by simp) _).setCell (by simp) _
  obtain ⟨w3, hw3⟩ : ∃ x, (w2.setCell ⟨b1, 0, none⟩ (.int .i64 3)).setCell ⟨b1, 1, none⟩ (.int .i64 0) = x := ⟨_, rfl⟩
  rw [hw3] at p3 f3
  simp only [List.set_cons_zero, List.set_cons_succ] at p3
  have k3 := p3.cell
  have F3 := (F1.out.trans f2).step f3 (fun q hq => .inr (by simp at hq; omega))
  clear hw1 hb1
  replace p2 := Lib.hid p2; replace p3 := Lib.hid p3; replace f2 := Lib.hid f2; replace f3 := Lib.hid f3; replace F3 := Lib.hid F3
  go_wp2_with fail
  refine bodyPost_ret (v := .agg #[.int .i64 3, .int .i64 0]) (by simp [results, Try.results12, go_sem, k3]) rfl ⟨rfl, F3.out⟩
theorem row_4_0 (w : World) : Calls Try.prog 12 #[.int .i64 4, .int .i64 0] w fun e w' => e = .returned (.agg #[.int .i64 4, .int .i64 0]) ∧ Fr [] w w' := by
  obtain ⟨w1, hw1⟩ : ∃ x, w.alloc (.cells #[.int .i64 0, .int .i64 0] RRow) = x := ⟨_, rfl⟩
  have P1 := Pt.newA w RRow #[.int .i64 0, .int .i64 0]
  rw [hw1] at P1
  have F1 : Fr [] w w1 := by rw [← hw1]; exact (Fr.refl [] w).alloc _
  obtain ⟨b1, hb1⟩ : ∃ x, w.heap.size = x := ⟨_, rfl⟩
  rw [hb1] at P1
  have l1 := P1.lt
  have wb : w.heap.size ≤ b1 := by omega
  have FT := fun s n o => from_t s n o w1
  have FF := fun s n o => from_f s n o w1
  replace P1 := Lib.hid P1; replace F1 := Lib.hid F1; replace FT := Lib.hid FT; replace FF := Lib.hid FF
  go_enter Try.func12, Try.ntmps12
  go_wp2_with fail
  refine (FF.out _ _ _).mono ?_
  rintro e w2 ⟨rfl, f2⟩
  have p2 := f2.pt P1.out (by simp)
  have c2 := p2.cell
  have z2 := p2.free
  have p3 := (p2.set 0 (.int .i64 4)).set 1 (.int .i64 0)
  have f3 : Fr [b1] w2 ((w2.setCell ⟨b1, 0, none⟩ (.int .i64 4)).setCell ⟨b1, 1, none⟩ (.int .i64 0)) := ((Fr.refl _ w2).setCell (by simp) _).setCell (by simp) _
  obtain ⟨w3, hw3⟩ : ∃ x, (w2.setCell ⟨b1, 0, none⟩ (.int .i64 4)).setCell ⟨b1, 1, none⟩ (.int .i64 0) = x := ⟨_, rfl⟩
  rw [hw3] at p3 f3
  simp only [List.set_cons_zero, List.set_cons_succ] at p3
  have k3 := p3.cell
  have F3 := (F1.out.trans f2).step f3 (fun q hq => .inr (by simp at hq; omega))
  clear hw1 hb1
  replace p2 := Lib.hid p2; replace p3 := Lib.hid p3; replace f2 := Lib.hid f2; replace f3 := Lib.hid f3; replace F3 := Lib.hid F3
  go_wp2_with fail
  refine bodyPost_ret (v := .agg #[.int .i64 4, .int .i64 0]) (by simp [results, Try.results12, go_sem, k3]) rfl ⟨rfl, F3.out⟩
theorem row_5_0 (w : World) : Calls Try.prog 12 #[.int .i64 5, .int .i64 0] w fun e w' => e = .returned (.agg #[.int .i64 5, .int .i64 0]) ∧ Fr [] w w' := by
  obtain ⟨w1, hw1⟩ : ∃ x, w.alloc (.cells #[.int .i64 0, .int .i64 0] RRow) = x := ⟨_, rfl⟩
  have P1 := Pt.newA w RRow #[.int .i64 0, .int .i64 0]
  rw [hw1] at P1
  have F1 : Fr [] w w1 := by rw [← hw1]; exact (Fr.refl [] w).alloc _
  obtain ⟨b1, hb1⟩ : ∃ x, w.heap.size = x := ⟨_, rfl⟩
  rw [hb1] at P1
  have l1 := P1.lt
  have wb : w.heap.size ≤ b1 := by omega
  have FT := fun s n o => from_t s n o w1
  have FF := fun s n o => from_f s n o w1
  replace P1 := Lib.hid P1; replace F1 := Lib.hid F1; replace FT := Lib.hid FT; replace FF := Lib.hid FF
  go_enter Try.func12, Try.ntmps12
  go_wp2_with fail
  refine (FF.out _ _ _).mono ?_
  rintro e w2 ⟨rfl, f2⟩
  have p2 := f2.pt P1.out (by simp)
  have c2 := p2.cell
  have z2 := p2.free
  have p3 := (p2.set 0 (.int .i64 5)).set 1 (.int .i64 0)
  have f3 : Fr [b1] w2 ((w2.setCell ⟨b1, 0, none⟩ (.int .i64 5)).setCell ⟨b1, 1, none⟩ (.int .i64 0)) := ((Fr.refl _ w2).setCell (by simp) _).setCell (by simp) _
  obtain ⟨w3, hw3⟩ : ∃ x, (w2.setCell ⟨b1, 0, none⟩ (.int .i64 5)).setCell ⟨b1, 1, none⟩ (.int .i64 0) = x := ⟨_, rfl⟩
  rw [hw3] at p3 f3
  simp only [List.set_cons_zero, List.set_cons_succ] at p3
  have k3 := p3.cell
  have F3 := (F1.out.trans f2).step f3 (fun q hq => .inr (by simp at hq; omega))
  clear hw1 hb1
  replace p2 := Lib.hid p2; replace p3 := Lib.hid p3; replace f2 := Lib.hid f2; replace f3 := Lib.hid f3; replace F3 := Lib.hid F3
  go_wp2_with fail
  refine bodyPost_ret (v := .agg #[.int .i64 5, .int .i64 0]) (by simp [results, Try.results12, go_sem, k3]) rfl ⟨rfl, F3.out⟩
theorem row_6_0 (w : World) : Calls Try.prog 12 #[.int .i64 6, .int .i64 0] w fun e w' => e = .returned (.agg #[.int .i64 6, .int .i64 0]) ∧ Fr [] w w' := by
  obtain ⟨w1, hw1⟩ : ∃ x, w.alloc (.cells #[.int .i64 0, .int .i64 0] RRow) = x := ⟨_, rfl⟩
  have P1 := Pt.newA w RRow #[.int .i64 0, .int .i64 0]
  rw [hw1] at P1
  have F1 : Fr [] w w1 := by rw [← hw1]; exact (Fr.refl [] w).alloc _
  obtain ⟨b1, hb1⟩ : ∃ x, w.heap.size = x := ⟨_, rfl⟩
  rw [hb1] at P1
  have l1 := P1.lt
  have wb : w.heap.size ≤ b1 := by omega
  have FT := fun s n o => from_t s n o w1
  have FF := fun s n o => from_f s n o w1
  replace P1 := Lib.hid P1; replace F1 := Lib.hid F1; replace FT := Lib.hid FT; replace FF := Lib.hid FF
  go_enter Try.func12, Try.ntmps12
  go_wp2_with fail
  refine (FF.out _ _ _).mono ?_
  rintro e w2 ⟨rfl, f2⟩
  have p2 := f2.pt P1.out (by simp)
  have c2 := p2.cell
  have z2 := p2.free
  have p3 := (p2.set 0 (.int .i64 6)).set 1 (.int .i64 0)
  have f3 : Fr [b1] w2 ((w2.setCell ⟨b1, 0, none⟩ (.int .i64 6)).setCell ⟨b1, 1, none⟩ (.int .i64 0)) := ((Fr.refl _ w2).setCell (by simp) _).setCell (by simp) _
  obtain ⟨w3, hw3⟩ : ∃ x, (w2.setCell ⟨b1, 0, none⟩ (.int .i64 6)).setCell ⟨b1, 1, none⟩ (.int .i64 0) = x := ⟨_, rfl⟩
  rw [hw3] at p3 f3
  simp only [List.set_cons_zero, List.set_cons_succ] at p3
  have k3 := p3.cell
  have F3 := (F1.out.trans f2).step f3 (fun q hq => .inr (by simp at hq; omega))
  clear hw1 hb1
  replace p2 := Lib.hid p2; replace p3 := Lib.hid p3; replace f2 := Lib.hid f2; replace f3 := Lib.hid f3; replace F3 := Lib.hid F3
  go_wp2_with fail
  refine bodyPost_ret (v := .agg #[.int .i64 6, .int .i64 0]) (by simp [results, Try.results12, go_sem, k3]) rfl ⟨rfl, F3.out⟩
theorem row_0_1 (w : World) : Calls Try.prog 12 #[.int .i64 0, .int .i64 1] w fun e w' => e = .returned (.agg #[.int .i64 0, .int .i64 0]) ∧ Fr [] w w' := by
  obtain ⟨w1, hw1⟩ : ∃ x, w.alloc (.cells #[.int .i64 0, .int .i64 0] RRow) = x := ⟨_, rfl⟩
  have P1 := Pt.newA w RRow #[.int .i64 0, .int .i64 0]
  rw [hw1] at P1
  have F1 : Fr [] w w1 := by rw [← hw1]; exact (Fr.refl [] w).alloc _
  obtain ⟨b1, hb1⟩ : ∃ x, w.heap.size = x := ⟨_, rfl⟩
  rw [hb1] at P1
  have l1 := P1.lt
  have wb : w.heap.size ≤ b1 := by omega
  have FT := fun s n o => from_t s n o w1
  have FF := fun s n o => from_f s n o w1
  replace P1 := Lib.hid P1; replace F1 := Lib.hid F1; replace FT := Lib.hid FT; replace FF := Lib.hid FF
  go_enter Try.func12, Try.ntmps12
  go_wp2_with fail
  refine (FF.out _ _ _).mono ?_
  rintro e w2 ⟨rfl, f2⟩
  have p2 := f2.pt P1.out (by simp)
  have c2 := p2.cell
  have z2 := p2.free
  have p3 := (p2.set 0 (.int .i64 0)).set 1 (.int .i64 0)
  have f3 : Fr [b1] w2 ((w2.setCell ⟨b1, 0, none⟩ (.int .i64 0)).setCell ⟨b1, 1, none⟩ (.int .i64 0)) := ((Fr.refl _ w2).setCell (by simp) _).setCell (by simp) _
  obtain ⟨w3, hw3⟩ : ∃ x, (w2.setCell ⟨b1, 0, none⟩ (.int .i64 0)).setCell ⟨b1, 1, none⟩ (.int .i64 0) = x := ⟨_, rfl⟩
  rw [hw3] at p3 f3
  simp only [List.set_cons_zero, List.set_cons_succ] at p3
  have k3 := p3.cell
  have F3 := (F1.out.trans f2).step f3 (fun q hq => .inr (by simp at hq; omega))
  clear hw1 hb1
  replace p2 := Lib.hid p2; replace p3 := Lib.hid p3; replace f2 := Lib.hid f2; replace f3 := Lib.hid f3; replace F3 := Lib.hid F3
  go_wp2_with fail
  refine bodyPost_ret (v := .agg #[.int .i64 0, .int .i64 0]) (by simp [results, Try.results12, go_sem, k3]) rfl ⟨rfl, F3.out⟩
theorem row_1_1 (w : World) : Calls Try.prog 12 #[.int .i64 1, .int .i64 1] w fun e w' => e = .returned (.agg #[.int .i64 1, .int .i64 0]) ∧ Fr [] w w' := by
  obtain ⟨w1, hw1⟩ : ∃ x, w.alloc (.cells #[.int .i64 0, .int .i64 0] RRow) = x := ⟨_, rfl⟩
  have P1 := Pt.newA w RRow #[.int .i64 0, .int .i64 0]
  rw [hw1] at P1
  have F1 : Fr [] w w1 := by rw [← hw1]; exact (Fr.refl [] w).alloc _
  obtain ⟨b1, hb1⟩ : ∃ x, w.heap.size = x := ⟨_, rfl⟩
  rw [hb1] at P1
  have l1 := P1.lt
  have wb : w.heap.size ≤ b1 := by omega
  have FT := fun s n o => from_t s n o w1
  have FF := fun s n o => from_f s n o w1
  replace P1 := Lib.hid P1; replace F1 := Lib.hid F1; replace FT := Lib.hid FT; replace FF := Lib.hid FF
  go_enter Try.func12, Try.ntmps12
  go_wp2_with fail
  refine (FF.out _ _ _).mono ?_
  rintro e w2 ⟨rfl, f2⟩
  have p2 := f2.pt P1.out (by simp)
  have c2 := p2.cell
  have z2 := p2.free
  have p3 := (p2.set 0 (.int .i64 1)).set 1 (.int .i64 0)
  have f3 : Fr [b1] w2 ((w2.setCell ⟨b1, 0, none⟩ (.int .i64 1)).setCell ⟨b1, 1, none⟩ (.int .i64 0)) := ((Fr.refl _ w2).setCell (by simp) _).setCell (by simp) _
  obtain ⟨w3, hw3⟩ : ∃ x, (w2.setCell ⟨b1, 0, none⟩ (.int .i64 1)).setCell ⟨b1, 1, none⟩ (.int .i64 0) = x := ⟨_, rfl⟩
  rw [hw3] at p3 f3
  simp only [List.set_cons_zero, List.set_cons_succ] at p3
  have k3 := p3.cell
  have F3 := (F1.out.trans f2).step f3 (fun q hq => .inr (by simp at hq; omega))
  clear hw1 hb1
  replace p2 := Lib.hid p2; replace p3 := Lib.hid p3; replace f2 := Lib.hid f2; replace f3 := Lib.hid f3; replace F3 := Lib.hid F3
  go_wp2_with fail
  refine bodyPost_ret (v := .agg #[.int .i64 1, .int .i64 0]) (by simp [results, Try.results12, go_sem, k3]) rfl ⟨rfl, F3.out⟩
theorem row_2_1 (w : World) : Calls Try.prog 12 #[.int .i64 2, .int .i64 1] w fun e w' => e = .returned (.agg #[.int .i64 3, .int .i64 1]) ∧ Fr [] w w' := by
  obtain ⟨w1, hw1⟩ : ∃ x, w.alloc (.cells #[.int .i64 0, .int .i64 0] RRow) = x := ⟨_, rfl⟩
  have P1 := Pt.newA w RRow #[.int .i64 0, .int .i64 0]
  rw [hw1] at P1
  have F1 : Fr [] w w1 := by rw [← hw1]; exact (Fr.refl [] w).alloc _
  obtain ⟨b1, hb1⟩ : ∃ x, w.heap.size = x := ⟨_, rfl⟩
  rw [hb1] at P1
  have l1 := P1.lt
  have wb : w.heap.size ≤ b1 := by omega
  have FT := fun s n o => from_t s n o w1
  have FF := fun s n o => from_f s n o w1
  replace P1 := Lib.hid P1; replace F1 := Lib.hid F1; replace FT := Lib.hid FT; replace FF := Lib.hid FF
  go_enter Try.func12, Try.ntmps12
  go_wp2_with fail
  refine (FT.out _ _ _).mono ?_
  rintro e w2 ⟨rfl, f2⟩
  have p2 := f2.pt P1.out (by simp)
  have c2 := p2.cell
  have z2 := p2.free
  have p3 := (p2.set 0 (.int .i64 3)).set 1 (.int .i64 1)
  have f3 : Fr [b1] w2 ((w2.setCell ⟨b1, 0, none⟩ (.int .i64 3)).setCell ⟨b1, 1, none⟩ (.int .i64 1)) := ((Fr.refl _ w2).setCell (by simp) _).setCell (by simp) _
  obtain ⟨w3, hw3⟩ : ∃ x, (w2.setCell ⟨b1, 0, none⟩ (.int .i64 3)).setCell ⟨b1, 1, none⟩ (.int .i64 1) = x := ⟨_, rfl⟩
  rw [hw3] at p3 f3
  simp only [List.set_cons_zero, List.set_cons_succ] at p3
  have k3 := p3.cell
  have F3 := (F1.out.trans f2).step f3 (fun q hq => .inr (by simp at hq; omega))
  clear hw1 hb1
  replace p2 := Lib.hid p2; replace p3 := Lib.hid p3; replace f2 := Lib.hid f2; replace f3 := Lib.hid f3; replace F3 := Lib.hid F3
  go_wp2_with fail
  refine bodyPost_ret (v := .agg #[.int .i64 3, .int .i64 1]) (by simp [results, Try.results12, go_sem, k3]) rfl ⟨rfl, F3.out⟩
theorem row_3_1 (w : World) : Calls Try.prog 12 #[.int .i64 3, .int .i64 1] w fun e w' => e = .returned (.agg #[.int .i64 3, .int .i64 0]) ∧ Fr [] w w' := by
  obtain ⟨w1, hw1⟩ : ∃ x, w.alloc (.cells #[.int .i64 0, .int .i64 0] RRow) = x := ⟨_, rfl⟩
  have P1 := Pt.newA w RRow #[.int .i64 0, .int .i64 0]
  rw [hw1] at P1
  have F1 : Fr [] w w1 := by rw [← hw1]; exact (Fr.refl [] w).alloc _
  obtain ⟨b1, hb1⟩ : ∃ x, w.heap.size = x := ⟨_, rfl⟩
  rw [hb1] at P1
  have l1 := P1.lt
  have wb : w.heap.size ≤ b1 := by omega
  have FT := fun s n o => from_t s n o w1
  have FF := fun s n o => from_f s n o w1
  replace P1 := Lib.hid P1; replace F1 := Lib.hid F1; replace FT := Lib.hid FT; replace FF := Lib.hid FF
  go_enter Try.func12, Try.ntmps12
  go_wp2_with fail
  refine (FF.out _ _ _).mono ?_
  rintro e w2 ⟨rfl, f2⟩
  have p2 := f2.pt P1.out (by simp)
  have c2 := p2.cell
  have z2 := p2.free
  have p3 := (p2.set 0 (.int .i64 3)).set 1 (.int .i64 0)
  have f3 : Fr [b1] w2 ((w2.setCell ⟨b1, 0, none⟩ (.int .i64 3)).setCell ⟨b1, 1, none⟩ (.int .i64 0)) := ((Fr.refl _ w2).setCell (by simp) _).setCell (by simp) _
  obtain ⟨w3, hw3⟩ : ∃ x, (w2.setCell ⟨b1, 0, none⟩ (.int .i64 3)).setCell ⟨b1, 1, none⟩ (.int .i64 0) = x := ⟨_, rfl⟩
  rw [hw3] at p3 f3
  simp only [List.set_cons_zero, List.set_cons_succ] at p3
  have k3 := p3.cell
  have F3 := (F1.out.trans f2).step f3 (fun q hq => .inr (by simp at hq; omega))
  clear hw1 hb1
  replace p2 := Lib.hid p2; replace p3 := Lib.hid p3; replace f2 := Lib.hid f2; replace f3 := Lib.hid f3; replace F3 := Lib.hid F3
  go_wp2_with fail
  refine bodyPost_ret (v := .agg #[.int .i64 3, .int .i64 0]) (by simp [results, Try.results12, go_sem, k3]) rfl ⟨rfl, F3.out⟩
theorem row_4_1 (w : World) : Calls Try.prog 12 #[.int .i64 4, .int .i64 1] w fun e w' => e = .returned (.agg #[.int .i64 4, .int .i64 0]) ∧ Fr [] w w' := by
  obtain ⟨w1, hw1⟩ : ∃ x, w.alloc (.cells #[.int .i64 0, .int .i64 0] RRow) = x := ⟨_, rfl⟩
  have P1 := Pt.newA w RRow #[.int .i64 0, .int .i64 0]
  rw [hw1] at P1
  have F1 : Fr [] w w1 := by rw [← hw1]; exact (Fr.refl [] w).alloc _
  obtain ⟨b1, hb1⟩ : ∃ x, w.heap.size = x := ⟨_, rfl⟩
  rw [hb1] at P1
  have l1 := P1.lt
  have wb : w.heap.size ≤ b1 := by omega
  have FT := fun s n o => from_t s n o w1
  have FF := fun s n o => from_f s n o w1
  replace P1 := Lib.hid P1; replace F1 := Lib.hid F1; replace FT := Lib.hid FT; replace FF := Lib.hid FF
  go_enter Try.func12, Try.ntmps12
  go_wp2_with fail
  refine (FF.out _ _ _).mono ?_
  rintro e w2 ⟨rfl, f2⟩
  have p2 := f2.pt P1.out (by simp)
  have c2 := p2.cell
  have z2 := p2.free
  have p3 := (p2.set 0 (.int .i64 4)).set 1 (.int .i64 0)
  have f3 : Fr [b1] w2 ((w2.setCell ⟨b1, 0, none⟩ (.int .i64 4)).setCell ⟨b1, 1, none⟩ (.int .i64 0)) := ((Fr.refl _ w2).setCell (by simp) _).setCell (by simp) _
  obtain ⟨w3, hw3⟩ : ∃ x, (w2.setCell ⟨b1, 0, none⟩ (.int .i64 4)).setCell ⟨b1, 1, none⟩ (.int .i64 0) = x := ⟨_, rfl⟩
  rw [hw3] at p3 f3
  simp only [List.set_cons_zero, List.set_cons_succ] at p3
  have k3 := p3.cell
  have F3 := (F1.out.trans f2).step f3 (fun q hq => .inr (by simp at hq; omega))
  clear hw1 hb1
  replace p2 := Lib.hid p2; replace p3 := Lib.hid p3; replace f2 := Lib.hid f2; replace f3 := Lib.hid f3; replace F3 := Lib.hid F3
  go_wp2_with fail
  refine bodyPost_ret (v := .agg #[.int .i64 4, .int .i64 0]) (by simp [results, Try.results12, go_sem, k3]) rfl ⟨rfl, F3.out⟩
theorem row_5_1 (w : World) : Calls Try.prog 12 #[.int .i64 5, .int .i64 1] w fun e w' => e = .returned (.agg #[.int .i64 5, .int .i64 0]) ∧ Fr [] w w' := by
  obtain ⟨w1, hw1⟩ : ∃ x, w.alloc (.cells #[.int .i64 0, .int .i64 0] RRow) = x := ⟨_, rfl⟩
  have P1 := Pt.newA w RRow #[.int .i64 0, .int .i64 0]
  rw [hw1] at P1
  have F1 : Fr [] w w1 := by rw [← hw1]; exact (Fr.refl [] w).alloc _
  obtain ⟨b1, hb1⟩ : ∃ x, w.heap.size = x := ⟨_, rfl⟩
  rw [hb1] at P1
  have l1 := P1.lt
  have wb : w.heap.size ≤ b1 := by omega
  have FT := fun s n o => from_t s n o w1
  have FF := fun s n o => from_f s n o w1
  replace P1 := Lib.hid P1; replace F1 := Lib.hid F1; replace FT := Lib.hid FT; replace FF := Lib.hid FF
  go_enter Try.func12, Try.ntmps12
  go_wp2_with fail
  refine (FF.out _ _ _).mono ?_
  rintro e w2 ⟨rfl, f2⟩
  have p2 := f2.pt P1.out (by simp)
  have c2 := p2.cell
  have z2 := p2.free
  have p3 := (p2.set 0 (.int .i64 5)).set 1 (.int .i64 0)
  have f3 : Fr [b1] w2 ((w2.setCell ⟨b1, 0, none⟩ (.int .i64 5)).setCell ⟨b1, 1, none⟩ (.int .i64 0)) := ((Fr.refl _ w2).setCell (by simp) _).setCell (by simp) _
  obtain ⟨w3, hw3⟩ : ∃ x, (w2.setCell ⟨b1, 0, none⟩ (.int .i64 5)).setCell ⟨b1, 1, none⟩ (.int .i64 0) = x := ⟨_, rfl⟩
  rw [hw3] at p3 f3
  simp only [List.set_cons_zero, List.set_cons_succ] at p3
  have k3 := p3.cell
  have F3 := (F1.out.trans f2).step f3 (fun q hq => .inr (by simp at hq; omega))
  clear hw1 hb1
  replace p2 := Lib.hid p2; replace p3 := Lib.hid p3; replace f2 := Lib.hid f2; replace f3 := Lib.hid f3; replace F3 := Lib.hid F3
  go_wp2_with fail
  refine bodyPost_ret (v := .agg #[.int .i64 5, .int .i64 0]) (by simp [results, Try.results12, go_sem, k3]) rfl ⟨rfl, F3.out⟩
theorem row_6_1 (w : World) : Calls Try.prog 12 #[.int .i64 6, .int .i64 1] w fun e w' => e = .returned (.agg #[.int .i64 6, .int .i64 0]) ∧ Fr [] w w' := by
  obtain ⟨w1, hw1⟩ : ∃ x, w.alloc (.cells #[.int .i64 0, .int .i64 0] RRow) = x := ⟨_, rfl⟩
  have P1 := Pt.newA w RRow #[.int .i64 0, .int .i64 0]
  rw [hw1] at P1
  have F1 : Fr [] w w1 := by rw [← hw1]; exact (Fr.refl [] w).alloc _
  obtain ⟨b1, hb1⟩ : ∃ x, w.heap.size = x := ⟨_, rfl⟩
  rw [hb1] at P1
  have l1 := P1.lt
  have wb : w.heap.size ≤ b1 := by omega
  have FT := fun s n o => from_t s n o w1
  have FF := fun s n o => from_f s n o w1
  replace P1 := Lib.hid P1; replace F1 := Lib.hid F1; replace FT := Lib.hid FT; replace FF := Lib.hid FF
  go_enter Try.func12, Try.ntmps12
  go_wp2_with fail
  refine (FF.out _ _ _).mono ?_
  rintro e w2 ⟨rfl, f2⟩
  have p2 := f2.pt P1.out (by simp)
  have c2 := p2.cell
  have z2 := p2.free
  have p3 := (p2.set 0 (.int .i64 6)).set 1 (.int .i64 0)
  have f3 : Fr [b1] w2 ((w2.setCell ⟨b1, 0, none⟩ (.int .i64 6)).setCell ⟨b1, 1, none⟩ (.int .i64 0)) := ((Fr.refl _ w2).setCell (by simp) _).setCell (by simp) _
  obtain ⟨w3, hw3⟩ : ∃ x, (w2.setCell ⟨b1, 0, none⟩ (.int .i64 6)).setCell ⟨b1, 1, none⟩ (.int .i64 0) = x := ⟨_, rfl⟩
  rw [hw3] at p3 f3
  simp only [List.set_cons_zero, List.set_cons_succ] at p3
  have k3 := p3.cell
  have F3 := (F1.out.trans f2).step f3 (fun q hq => .inr (by simp at hq; omega))
  clear hw1 hb1
  replace p2 := Lib.hid p2; replace p3 := Lib.hid p3; replace f2 := Lib.hid f2; replace f3 := Lib.hid f3; replace F3 := Lib.hid F3
  go_wp2_with fail
  refine bodyPost_ret (v := .agg #[.int .i64 6, .int .i64 0]) (by simp [results, Try.results12, go_sem, k3]) rfl ⟨rfl, F3.out⟩
theorem row_0_2 (w : World) : Calls Try.prog 12 #[.int .i64 0, .int .i64 2] w fun e w' => e = .returned (.agg #[.int .i64 0, .int .i64 0]) ∧ Fr [] w w' := by
  obtain ⟨w1, hw1⟩ : ∃ x, w.alloc (.cells #[.int .i64 0, .int .i64 0] RRow) = x := ⟨_, rfl⟩
  have P1 := Pt.newA w RRow #[.int .i64 0, .int .i64 0]
  rw [hw1] at P1
  have F1 : Fr [] w w1 := by rw [← hw1]; exact (Fr.refl [] w).alloc _
  obtain ⟨b1, hb1⟩ : ∃ x, w.heap.size = x := ⟨_, rfl⟩
  rw [hb1] at P1
  have l1 := P1.lt
  have wb : w.heap.size ≤ b1 := by omega
  have FT := fun s n o => from_t s n o w1
  have FF := fun s n o => from_f s n o w1
  replace P1 := Lib.hid P1; replace F1 := Lib.hid F1; replace FT := Lib.hid FT; replace FF := Lib.hid FF
  go_enter Try.func12, Try.ntmps12
  go_wp2_with fail
  refine (FF.out _ _ _).mono ?_
  rintro e w2 ⟨rfl, f2⟩
  have p2 := f2.pt P1.out (by simp)
  have c2 := p2.cell
  have z2 := p2.free
  have p3 := (p2.set 0 (.int .i64 0)).set 1 (.int .i64 0)
  have f3 : Fr [b1] w2 ((w2.setCell ⟨b1, 0, none⟩ (.int .i64 0)).setCell ⟨b1, 1, none⟩ (.int .i64 0)) := ((Fr.refl _ w2).setCell (by simp) _).setCell (by simp) _
  obtain ⟨w3, hw3⟩ : ∃ x, (w2.setCell ⟨b1, 0, none⟩ (.int .i64 0)).setCell ⟨b1, 1, none⟩ (.int .i64 0) = x := ⟨_, rfl⟩
  rw [hw3] at p3 f3
  simp only [List.set_cons_zero, List.set_cons_succ] at p3
  have k3 := p3.cell
  have F3 := (F1.out.trans f2).step f3 (fun q hq => .inr (by simp at hq; omega))
  clear hw1 hb1
  replace p2 := Lib.hid p2; replace p3 := Lib.hid p3; replace f2 := Lib.hid f2; replace f3 := Lib.hid f3; replace F3 := Lib.hid F3
  go_wp2_with fail
  refine bodyPost_ret (v := .agg #[.int .i64 0, .int .i64 0]) (by simp [results, Try.results12, go_sem, k3]) rfl ⟨rfl, F3.out⟩
theorem row_1_2 (w : World) : Calls Try.prog 12 #[.int .i64 1, .int .i64 2] w fun e w' => e = .returned (.agg #[.int .i64 1, .int .i64 0]) ∧ Fr [] w w' := by
  obtain ⟨w1, hw1⟩ : ∃ x, w.alloc (.cells #[.int .i64 0, .int .i64 0] RRow) = x := ⟨_, rfl⟩
  have P1 := Pt.newA w RRow #[.int .i64 0, .int .i64 0]
  rw [hw1] at P1
  have F1 : Fr [] w w1 := by rw [← hw1]; exact (Fr.refl [] w).alloc _
  obtain ⟨b1, hb1⟩ : ∃ x, w.heap.size = x := ⟨_, rfl⟩
  rw [hb1] at P1
  have l1 := P1.lt
  have wb : w.heap.size ≤ b1 := by omega
  have FT := fun s n o => from_t s n o w1
  have FF := fun s n o => from_f s n o w1
  replace P1 := Lib.hid P1; replace F1 := Lib.hid F1; replace FT := Lib.hid FT; replace FF := Lib.hid FF
  go_enter Try.func12, Try.ntmps12
  go_wp2_with fail
  refine (FF.out _ _ _).mono ?_
  rintro e w2 ⟨rfl, f2⟩
  have p2 := f2.pt P1.out (by simp)
  have c2 := p2.cell
  have z2 := p2.free
  have p3 := (p2.set 0 (.int .i64 1)).set 1 (.int .i64 0)
  have f3 : Fr [b1] w2 ((w2.setCell ⟨b1, 0, none⟩ (.int .i64 1)).setCell ⟨b1, 1, none⟩ (.int .i64 0)) := ((Fr.refl _ w2).setCell (by simp) _).setCell (by simp) _
  obtain ⟨w3, hw3⟩ : ∃ x, (w2.setCell ⟨b1, 0, none⟩ (.int .i64 1)).setCell ⟨b1, 1, none⟩ (.int .i64 0) = x := ⟨_, rfl⟩
  rw [hw3] at p3 f3
  simp only [List.set_cons_zero, List.set_cons_succ] at p3
  have k3 := p3.cell
  have F3 := (F1.out.trans f2).step f3 (fun q hq => .inr (by simp at hq; omega))
  clear hw1 hb1
  replace p2 := Lib.hid p2; replace p3 := Lib.hid p3; replace f2 := Lib.hid f2; replace f3 := Lib.hid f3; replace F3 := Lib.hid F3
  go_wp2_with fail
  refine bodyPost_ret (v := .agg #[.int .i64 1, .int .i64 0]) (by simp [results, Try.results12, go_sem, k3]) rfl ⟨rfl, F3.out⟩
theorem row_2_2 (w : World) : Calls Try.prog 12 #[.int .i64 2, .int .i64 2] w fun e w' => e = .returned (.agg #[.int .i64 6, .int .i64 1]) ∧ Fr [] w w' := by
  obtain ⟨w1, hw1⟩ : ∃ x, w.alloc (.cells #[.int .i64 0, .int .i64 0] RRow) = x := ⟨_, rfl⟩
  have P1 := Pt.newA w RRow #[.int .i64 0, .int .i64 0]
  rw [hw1] at P1
  have F1 : Fr [] w w1 := by rw [← hw1]; exact (Fr.refl [] w).alloc _
  obtain ⟨b1, hb1⟩ : ∃ x, w.heap.size = x := ⟨_, rfl⟩
  rw [hb1] at P1
  have l1 := P1.lt
  have wb : w.heap.size ≤ b1 := by omega
  have FT := fun s n o => from_t s n o w1
  have FF := fun s n o => from_f s n o w1
  replace P1 := Lib.hid P1; replace F1 := Lib.hid F1; replace FT := Lib.hid FT; replace FF := Lib.hid FF
  go_enter Try.func12, Try.ntmps12
  go_wp2_with fail
  refine (FT.out _ _ _).mono ?_
  rintro e w2 ⟨rfl, f2⟩
  have p2 := f2.pt P1.out (by simp)
  have c2 := p2.cell
  have z2 := p2.free
  have p3 := (p2.set 0 (.int .i64 6)).set 1 (.int .i64 1)
  have f3 : Fr [b1] w2 ((w2.setCell ⟨b1, 0, none⟩ (.int .i64 6)).setCell ⟨b1, 1, none⟩ (.int .i64 1)) := ((Fr.refl _ w2).setCell (by simp) _).setCell (by simp) _
  obtain ⟨w3, hw3⟩ : ∃ x, (w2.setCell ⟨b1, 0, none⟩ (.int .i64 6)).setCell ⟨b1, 1, none⟩ (.int .i64 1) = x := ⟨_, rfl⟩
  rw [hw3] at p3 f3
  simp only [List.set_cons_zero, List.set_cons_succ] at p3
  have k3 := p3.cell
  have F3 := (F1.out.trans f2).step f3 (fun q hq => .inr (by simp at hq; omega))
  clear hw1 hb1
  replace p2 := Lib.hid p2; replace p3 := Lib.hid p3; replace f2 := Lib.hid f2; replace f3 := Lib.hid f3; replace F3 := Lib.hid F3
  go_wp2_with fail
  refine bodyPost_ret (v := .agg #[.int .i64 6, .int .i64 1]) (by simp [results, Try.results12, go_sem, k3]) rfl ⟨rfl, F3.out⟩
theorem row_3_2 (w : World) : Calls Try.prog 12 #[.int .i64 3, .int .i64 2] w fun e w' => e = .returned (.agg #[.int .i64 3, .int .i64 0]) ∧ Fr [] w w' := by
  obtain ⟨w1, hw1⟩ : ∃ x, w.alloc (.cells #[.int .i64 0, .int .i64 0] RRow) = x := ⟨_, rfl⟩
  have P1 := Pt.newA w RRow #[.int .i64 0, .int .i64 0]
  rw [hw1] at P1
  have F1 : Fr [] w w1 := by rw [← hw1]; exact (Fr.refl [] w).alloc _
  obtain ⟨b1, hb1⟩ : ∃ x, w.heap.size = x := ⟨_, rfl⟩
  rw [hb1] at P1
  have l1 := P1.lt
  have wb : w.heap.size ≤ b1 := by omega
  have FT := fun s n o => from_t s n o w1
  have FF := fun s n o => from_f s n o w1
  replace P1 := Lib.hid P1; replace F1 := Lib.hid F1; replace FT := Lib.hid FT; replace FF := Lib.hid FF
  go_enter Try.func12, Try.ntmps12
  go_wp2_with fail
  refine (FF.out _ _ _).mono ?_
  rintro e w2 ⟨rfl, f2⟩
  have p2 := f2.pt P1.out (by simp)
  have c2 := p2.cell
  have z2 := p2.free
  have p3 := (p2.set 0 (.int .i64 3)).set 1 (.int .i64 0)
  have f3 : Fr [b1] w2 ((w2.setCell ⟨b1, 0, none⟩ (.int .i64 3)).setCell ⟨b1, 1, none⟩ (.int .i64 0)) := ((Fr.refl _ w2).setCell (by simp) _).setCell (by simp) _
  obtain ⟨w3, hw3⟩ : ∃ x, (w2.setCell ⟨b1, 0, none⟩ (.int .i64 3)).setCell ⟨b1, 1, none⟩ (.int .i64 0) = x := ⟨_, rfl⟩
  rw [hw3] at p3 f3
  simp only [List.set_cons_zero, List.set_cons_succ] at p3
  have k3 := p3.cell
  have F3 := (F1.out.trans f2).step f3 (fun q hq => .inr (by simp at hq; omega))
  clear hw1 hb1
  replace p2 := Lib.hid p2; replace p3 := Lib.hid p3; replace f2 := Lib.hid f2; replace f3 := Lib.hid f3; replace F3 := Lib.hid F3
  go_wp2_with fail
  refine bodyPost_ret (v := .agg #[.int .i64 3, .int .i64 0]) (by simp [results, Try.results12, go_sem, k3]) rfl ⟨rfl, F3.out⟩
theorem row_4_2 (w : World) : Calls Try.prog 12 #[.int .i64 4, .int .i64 2] w fun e w' => e = .returned (.agg #[.int .i64 4, .int .i64 0]) ∧ Fr [] w w' := by
  obtain ⟨w1, hw1⟩ : ∃ x, w.alloc (.cells #[.int .i64 0, .int .i64 0] RRow) = x := ⟨_, rfl⟩
  have P1 := Pt.newA w RRow #[.int .i64 0, .int .i64 0]
  rw [hw1] at P1
  have F1 : Fr [] w w1 := by rw [← hw1]; exact (Fr.refl [] w).alloc _
  obtain ⟨b1, hb1⟩ : ∃ x, w.heap.size = x := ⟨_, rfl⟩
  rw [hb1] at P1
  have l1 := P1.lt
  have wb : w.heap.size ≤ b1 := by omega
  have FT := fun s n o => from_t s n o w1
  have FF := fun s n o => from_f s n o w1
  replace P1 := Lib.hid P1; replace F1 := Lib.hid F1; replace FT := Lib.hid FT; replace FF := Lib.hid FF
  go_enter Try.func12, Try.ntmps12
  go_wp2_with fail
  refine (FF.out _ _ _).mono ?_
  rintro e w2 ⟨rfl, f2⟩
  have p2 := f2.pt P1.out (by simp)
  have c2 := p2.cell
  have z2 := p2.free
  have p3 := (p2.set 0 (.int .i64 4)).set 1 (.int .i64 0)
  have f3 : Fr [b1] w2 ((w2.setCell ⟨b1, 0, none⟩ (.int .i64 4)).setCell ⟨b1, 1, none⟩ (.int .i64 0)) := ((Fr.refl _ w2).setCell (by simp) _).setCell (by simp) _
  obtain ⟨w3, hw3⟩ : ∃ x, (w2.setCell ⟨b1, 0, none⟩ (.int .i64 4)).setCell ⟨b1, 1, none⟩ (.int .i64 0) = x := ⟨_, rfl⟩
  rw [hw3] at p3 f3
  simp only [List.set_cons_zero, List.set_cons_succ] at p3
  have k3 := p3.cell
  have F3 := (F1.out.trans f2).step f3 (fun q hq => .inr (by simp at hq; omega))
  clear hw1 hb1
  replace p2 := Lib.hid p2; replace p3 := Lib.hid p3; replace f2 := Lib.hid f2; replace f3 := Lib.hid f3; replace F3 := Lib.hid F3
  go_wp2_with fail
  refine bodyPost_ret (v := .agg #[.int .i64 4, .int .i64 0]) (by simp [results, Try.results12, go_sem, k3]) rfl ⟨rfl, F3.out⟩
theorem row_5_2 (w : World) : Calls Try.prog 12 #[.int .i64 5, .int .i64 2] w fun e w' => e = .returned (.agg #[.int .i64 5, .int .i64 0]) ∧ Fr [] w w' := by
  obtain ⟨w1, hw1⟩ : ∃ x, w.alloc (.cells #[.int .i64 0, .int .i64 0] RRow) = x := ⟨_, rfl⟩
  have P1 := Pt.newA w RRow #[.int .i64 0, .int .i64 0]
  rw [hw1] at P1
  have F1 : Fr [] w w1 := by rw [← hw1]; exact (Fr.refl [] w).alloc _
  obtain ⟨b1, hb1⟩ : ∃ x, w.heap.size = x := ⟨_, rfl⟩
  rw [hb1] at P1
  have l1 := P1.lt
  have wb : w.heap.size ≤ b1 := by omega
  have FT := fun s n o => from_t s n o w1
  have FF := fun s n o => from_f s n o w1
  replace P1 := Lib.hid P1; replace F1 := Lib.hid F1; replace FT := Lib.hid FT; replace FF := Lib.hid FF
  go_enter Try.func12, Try.ntmps12
  go_wp2_with fail
  refine (FF.out _ _ _).mono ?_
  rintro e w2 ⟨rfl, f2⟩
  have p2 := f2.pt P1.out (by simp)
  have c2 := p2.cell
  have z2 := p2.free
  have p3 := (p2.set 0 (.int .i64 5)).set 1 (.int .i64 0)
  have f3 : Fr [b1] w2 ((w2.setCell ⟨b1, 0, none⟩ (.int .i64 5)).setCell ⟨b1, 1, none⟩ (.int .i64 0)) := ((Fr.refl _ w2).setCell (by simp) _).setCell (by simp) _
  obtain ⟨w3, hw3⟩ : ∃ x, (w2.setCell ⟨b1, 0, none⟩ (.int .i64 5)).setCell ⟨b1, 1, none⟩ (.int .i64 0) = x := ⟨_, rfl⟩
  rw [hw3] at p3 f3
  simp only [List.set_cons_zero, List.set_cons_succ] at p3
  have k3 := p3.cell
  have F3 := (F1.out.trans f2).step f3 (fun q hq => .inr (by simp at hq; omega))
  clear hw1 hb1
  replace p2 := Lib.hid p2; replace p3 := Lib.hid p3; replace f2 := Lib.hid f2; replace f3 := Lib.hid f3; replace F3 := Lib.hid F3
  go_wp2_with fail
  refine bodyPost_ret (v := .agg #[.int .i64 5, .int .i64 0]) (by simp [results, Try.results12, go_sem, k3]) rfl ⟨rfl, F3.out⟩
theorem row_6_2 (w : World) : Calls Try.prog 12 #[.int .i64 6, .int .i64 2] w fun e w' => e = .returned (.agg #[.int .i64 6, .int .i64 0]) ∧ Fr [] w w' := by
  obtain ⟨w1, hw1⟩ : ∃ x, w.alloc (.cells #[.int .i64 0, .int .i64 0] RRow) = x := ⟨_, rfl⟩
  have P1 := Pt.newA w RRow #[.int .i64 0, .int .i64 0]
  rw [hw1] at P1
  have F1 : Fr [] w w1 := by rw [← hw1]; exact (Fr.refl [] w).alloc _
  obtain ⟨b1, hb1⟩ : ∃ x, w.heap.size = x := ⟨_, rfl⟩
  rw [hb1] at P1
  have l1 := P1.lt
  have wb : w.heap.size ≤ b1 := by omega
  have FT := fun s n o => from_t s n o w1
  have FF := fun s n o => from_f s n o w1
  replace P1 := Lib.hid P1; replace F1 := Lib.hid F1; replace FT := Lib.hid FT; replace FF := Lib.hid FF
  go_enter Try.func12, Try.ntmps12
  go_wp2_with fail
  refine (FF.out _ _ _).mono ?_
  rintro e w2 ⟨rfl, f2⟩
  have p2 := f2.pt P1.out (by simp)
  have c2 := p2.cell
  have z2 := p2.free
  have p3 := (p2.set 0 (.int .i64 6)).set 1 (.int .i64 0)
  have f3 : Fr [b1] w2 ((w2.setCell ⟨b1, 0, none⟩ (.int .i64 6)).setCell ⟨b1, 1, none⟩ (.int .i64 0)) := ((Fr.refl _ w2).setCell (by simp) _).setCell (by simp) _
  obtain ⟨w3, hw3⟩ : ∃ x, (w2.setCell ⟨b1, 0, none⟩ (.int .i64 6)).setCell ⟨b1, 1, none⟩ (.int .i64 0) = x := ⟨_, rfl⟩
  rw [hw3] at p3 f3
  simp only [List.set_cons_zero, List.set_cons_succ] at p3
  have k3 := p3.cell
  have F3 := (F1.out.trans f2).step f3 (fun q hq => .inr (by simp at hq; omega))
  clear hw1 hb1
  replace p2 := Lib.hid p2; replace p3 := Lib.hid p3; replace f2 := Lib.hid f2; replace f3 := Lib.hid f3; replace F3 := Lib.hid F3
  go_wp2_with fail
  refine bodyPost_ret (v := .agg #[.int .i64 6, .int .i64 0]) (by simp [results, Try.results12, go_sem, k3]) rfl ⟨rfl, F3.out⟩
theorem row_0_3 (w : World) : Calls Try.prog 12 #[.int .i64 0, .int .i64 3] w fun e w' => e = .returned (.agg #[.int .i64 0, .int .i64 0]) ∧ Fr [] w w' := by
  obtain ⟨w1, hw1⟩ : ∃ x, w.alloc (.cells #[.int .i64 0, .int .i64 0] RRow) = x := ⟨_, rfl⟩
  have P1 := Pt.newA w RRow #[.int .i64 0, .int .i64 0]
  rw [hw1] at P1
  have F1 : Fr [] w w1 := by rw [← hw1]; exact (Fr.refl [] w).alloc _
  obtain ⟨b1, hb1⟩ : ∃ x, w.heap.size = x := ⟨_, rfl⟩
  rw [hb1] at P1
  have l1 := P1.lt
  have wb : w.heap.size ≤ b1 := by omega
  have FT := fun s n o => from_t s n o w1
  have FF := fun s n o => from_f s n o w1
  replace P1 := Lib.hid P1; replace F1 := Lib.hid F1; replace FT := Lib.hid FT; replace FF := Lib.hid FF
  go_enter Try.func12, Try.ntmps12
  go_wp2_with fail
  refine (FF.out _ _ _).mono ?_
  rintro e w2 ⟨rfl, f2⟩
  have p2 := f2.pt P1.out (by simp)
  have c2 := p2.cell
  have z2 := p2.free
  have p3 := (p2.set 0 (.int .i64 0)).set 1 (.int .i64 0)
  have f3 : Fr [b1] w2 ((w2.setCell ⟨b1, 0, none⟩ (.int .i64 0)).setCell ⟨b1, 1, none⟩ (.int .i64 0)) := ((Fr.refl _ w2).setCell (by simp) _).setCell (by simp) _
  obtain ⟨w3, hw3⟩ : ∃ x, (w2.setCell ⟨b1, 0, none⟩ (.int .i64 0)).setCell ⟨b1, 1, none⟩ (.int .i64 0) = x := ⟨_, rfl⟩
  rw [hw3] at p3 f3
  simp only [List.set_cons_zero, List.set_cons_succ] at p3
  have k3 := p3.cell
  have F3 := (F1.out.trans f2).step f3 (fun q hq => .inr (by simp at hq; omega))
  clear hw1 hb1
  replace p2 := Lib.hid p2; replace p3 := Lib.hid p3; replace f2 := Lib.hid f2; replace f3 := Lib.hid f3; replace F3 := Lib.hid F3
  go_wp2_with fail
  refine bodyPost_ret (v := .agg #[.int .i64 0, .int .i64 0]) (by simp [results, Try.results12, go_sem, k3]) rfl ⟨rfl, F3.out⟩
theorem row_1_3 (w : World) : Calls Try.prog 12 #[.int .i64 1, .int .i64 3] w fun e w' => e = .returned (.agg #[.int .i64 1, .int .i64 0]) ∧ Fr [] w w' := by
  obtain ⟨w1, hw1⟩ : ∃ x, w.alloc (.cells #[.int .i64 0, .int .i64 0] RRow) = x := ⟨_, rfl⟩
  have P1 := Pt.newA w RRow #[.int .i64 0, .int .i64 0]
  rw [hw1] at P1
  have F1 : Fr [] w w1 := by rw [← hw1]; exact (Fr.refl [] w).alloc _
  obtain ⟨b1, hb1⟩ : ∃ x, w.heap.size = x := ⟨_, rfl⟩
  rw [hb1] at P1
  have l1 := P1.lt
  have wb : w.heap.size ≤ b1 := by omega
  have FT := fun s n o => from_t s n o w1
  have FF := fun s n o => from_f s n o w1
  replace P1 := Lib.hid P1; replace F1 := Lib.hid F1; replace FT := Lib.hid FT; replace FF := Lib.hid FF
  go_enter Try.func12, Try.ntmps12
  go_wp2_with fail
  refine (FF.out _ _ _).mono ?_
  rintro e w2 ⟨rfl, f2⟩
  have p2 := f2.pt P1.out (by simp)
  have c2 := p2.cell
  have z2 := p2.free
  have p3 := (p2.set 0 (.int .i64 1)).set 1 (.int .i64 0)
  have f3 : Fr [b1] w2 ((w2.setCell ⟨b1, 0, none⟩ (.int .i64 1)).setCell ⟨b1, 1, none⟩ (.int .i64 0)) := ((Fr.refl _ w2).setCell (by simp) _).setCell (by simp) _
  obtain ⟨w3, hw3⟩ : ∃ x, (w2.setCell ⟨b1, 0, none⟩ (.int .i64 1)).setCell ⟨b1, 1, none⟩ (.int .i64 0) = x := ⟨_, rfl⟩
  rw [hw3] at p3 f3
  simp only [List.set_cons_zero, List.set_cons_succ] at p3
  have k3 := p3.cell
  have F3 := (F1.out.trans f2).step f3 (fun q hq => .inr (by simp at hq; omega))
  clear hw1 hb1
  replace p2 := Lib.hid p2; replace p3 := Lib.hid p3; replace f2 := Lib.hid f2; replace f3 := Lib.hid f3; replace F3 := Lib.hid F3
  go_wp2_with fail
  refine bodyPost_ret (v := .agg #[.int .i64 1, .int .i64 0]) (by simp [results, Try.results12, go_sem, k3]) rfl ⟨rfl, F3.out⟩
theorem row_2_3 (w : World) : Calls Try.prog 12 #[.int .i64 2, .int .i64 3] w fun e w' => e = .returned (.agg #[.int .i64 2, .int .i64 0]) ∧ Fr [] w w' := by
  obtain ⟨w1, hw1⟩ : ∃ x, w.alloc (.cells #[.int .i64 0, .int .i64 0] RRow) = x := ⟨_, rfl⟩
  have P1 := Pt.newA w RRow #[.int .i64 0, .int .i64 0]
  rw [hw1] at P1
  have F1 : Fr [] w w1 := by rw [← hw1]; exact (Fr.refl [] w).alloc _
  obtain ⟨b1, hb1⟩ : ∃ x, w.heap.size = x := ⟨_, rfl⟩
  rw [hb1] at P1
  have l1 := P1.lt
  have wb : w.heap.size ≤ b1 := by omega
  have FT := fun s n o => from_t s n o w1
  have FF := fun s n o => from_f s n o w1
  replace P1 := Lib.hid P1; replace F1 := Lib.hid F1; replace FT := Lib.hid FT; replace FF := Lib.hid FF
  go_enter Try.func12, Try.ntmps12
  go_wp2_with fail
  refine (FF.out _ _ _).mono ?_
  rintro e w2 ⟨rfl, f2⟩
  have p2 := f2.pt P1.out (by simp)
  have c2 := p2.cell
  have z2 := p2.free
  have p3 := (p2.set 0 (.int .i64 2)).set 1 (.int .i64 0)
  have f3 : Fr [b1] w2 ((w2.setCell ⟨b1, 0, none⟩ (.int .i64 2)).setCell ⟨b1, 1, none⟩ (.int .i64 0)) := ((Fr.refl _ w2).setCell (by simp) _).setCell (by simp) _
  obtain ⟨w3, hw3⟩ : ∃ x, (w2.setCell ⟨b1, 0, none⟩ (.int .i64 2)).setCell ⟨b1, 1, none⟩ (.int .i64 0) = x := ⟨_, rfl⟩
  rw [hw3] at p3 f3
  simp only [List.set_cons_zero, List.set_cons_succ] at p3
  have k3 := p3.cell
  have F3 := (F1.out.trans f2).step f3 (fun q hq => .inr (by simp at hq; omega))
  clear hw1 hb1
  replace p2 := Lib.hid p2; replace p3 := Lib.hid p3; replace f2 := Lib.hid f2; replace f3 := Lib.hid f3; replace F3 := Lib.hid F3
  go_wp2_with fail
  refine bodyPost_ret (v := .agg #[.int .i64 2, .int .i64 0]) (by simp [results, Try.results12, go_sem, k3]) rfl ⟨rfl, F3.out⟩
theorem row_3_3 (w : World) : Calls Try.prog 12 #[.int .i64 3, .int .i64 3] w fun e w' => e = .returned (.agg #[.int .i64 3, .int .i64 1]) ∧ Fr [] w w' := by
  obtain ⟨w1, hw1⟩ : ∃ x, w.alloc (.cells #[.int .i64 0, .int .i64 0] RRow) = x := ⟨_, rfl⟩
  have P1 := Pt.newA w RRow #[.int .i64 0, .int .i64 0]
  rw [hw1] at P1
  have F1 : Fr [] w w1 := by rw [← hw1]; exact (Fr.refl [] w).alloc _
  obtain ⟨b1, hb1⟩ : ∃ x, w.heap.size = x := ⟨_, rfl⟩
  rw [hb1] at P1
  have l1 := P1.lt
  have wb : w.heap.size ≤ b1 := by omega
  have FT := fun s n o => from_t s n o w1
  have FF := fun s n o => from_f s n o w1
  replace P1 := Lib.hid P1; replace F1 := Lib.hid F1; replace FT := Lib.hid FT; replace FF := Lib.hid FF
  go_enter Try.func12, Try.ntmps12
  go_wp2_with fail
  refine (FT.out _ _ _).mono ?_
  rintro e w2 ⟨rfl, f2⟩
  have p2 := f2.pt P1.out (by simp)
  have c2 := p2.cell
  have z2 := p2.free
  have p3 := (p2.set 0 (.int .i64 3)).set 1 (.int .i64 1)
  have f3 : Fr [b1] w2 ((w2.setCell ⟨b1, 0, none⟩ (.int .i64 3)).setCell ⟨b1, 1, none⟩ (.int .i64 1)) := ((Fr.refl _ w2).setCell (by simp) _).setCell (by simp) _
  obtain ⟨w3, hw3⟩ : ∃ x, (w2.setCell ⟨b1, 0, none⟩ (.int .i64 3)).setCell ⟨b1, 1, none⟩ (.int .i64 1) = x := ⟨_, rfl⟩
  rw [hw3] at p3 f3
  simp only [List.set_cons_zero, List.set_cons_succ] at p3
  have k3 := p3.cell
  have F3 := (F1.out.trans f2).step f3 (fun q hq => .inr (by simp at hq; omega))
  clear hw1 hb1
  replace p2 := Lib.hid p2; replace p3 := Lib.hid p3; replace f2 := Lib.hid f2; replace f3 := Lib.hid f3; replace F3 := Lib.hid F3
  go_wp2_with fail
  refine bodyPost_ret (v := .agg #[.int .i64 3, .int .i64 1]) (by simp [results, Try.results12, go_sem, k3]) rfl ⟨rfl, F3.out⟩
theorem row_4_3 (w : World) : Calls Try.prog 12 #[.int .i64 4, .int .i64 3] w fun e w' => e = .returned (.agg #[.int .i64 4, .int .i64 0]) ∧ Fr [] w w' := by
  obtain ⟨w1, hw1⟩ : ∃ x, w.alloc (.cells #[.int .i64 0, .int .i64 0] RRow) = x := ⟨_, rfl⟩
  have P1 := Pt.newA w RRow #[.int .i64 0, .int .i64 0]
  rw [hw1] at P1
  have F1 : Fr [] w w1 := by rw [← hw1]; exact (Fr.refl [] w).alloc _
  obtain ⟨b1, hb1⟩ : ∃ x, w.heap.size = x := ⟨_, rfl⟩
  rw [hb1] at P1
  have l1 := P1.lt
  have wb : w.heap.size ≤ b1 := by omega
  have FT := fun s n o => from_t s n o w1
  have FF := fun s n o => from_f s n o w1
  replace P1 := Lib.hid P1; replace F1 := Lib.hid F1; replace FT := Lib.hid FT; replace FF := Lib.hid FF
  go_enter Try.func12, Try.ntmps12
  go_wp2_with fail
  refine (FF.out _ _ _).mono ?_
  rintro e w2 ⟨rfl, f2⟩
  have p2 := f2.pt P1.out (by simp)
  have c2 := p2.cell
  have z2 := p2.free
  have p3 := (p2.set 0 (.int .i64 4)).set 1 (.int .i64 0)
  have f3 : Fr [b1] w2 ((w2.setCell ⟨b1, 0, none⟩ (.int .i64 4)).setCell ⟨b1, 1, none⟩ (.int .i64 0)) := ((Fr.refl _ w2).setCell (by simp) _).setCell (by simp) _
  obtain ⟨w3, hw3⟩ : ∃ x, (w2.setCell ⟨b1, 0, none⟩ (.int .i64 4)).setCell ⟨b1, 1, none⟩ (.int .i64 0) = x := ⟨_, rfl⟩
  rw [hw3] at p3 f3
  simp only [List.set_cons_zero, List.set_cons_succ] at p3
  have k3 := p3.cell
  have F3 := (F1.out.trans f2).step f3 (fun q hq => .inr (by simp at hq; omega))
  clear hw1 hb1
  replace p2 := Lib.hid p2; replace p3 := Lib.hid p3; replace f2 := Lib.hid f2; replace f3 := Lib.hid f3; replace F3 := Lib.hid F3
  go_wp2_with fail
  refine bodyPost_ret (v := .agg #[.int .i64 4, .int .i64 0]) (by simp [results, Try.results12, go_sem, k3]) rfl ⟨rfl, F3.out⟩
theorem row_5_3 (w : World) : Calls Try.prog 12 #[.int .i64 5, .int .i64 3] w fun e w' => e = .returned (.agg #[.int .i64 5, .int .i64 0]) ∧ Fr [] w w' := by
  obtain ⟨w1, hw1⟩ : ∃ x, w.alloc (.cells #[.int .i64 0, .int .i64 0] RRow) = x := ⟨_, rfl⟩
  have P1 := Pt.newA w RRow #[.int .i64 0, .int .i64 0]
  rw [hw1] at P1
  have F1 : Fr [] w w1 := by rw [← hw1]; exact (Fr.refl [] w).alloc _
  obtain ⟨b1, hb1⟩ : ∃ x, w.heap.size = x := ⟨_, rfl⟩
  rw [hb1] at P1
  have l1 := P1.lt
  have wb : w.heap.size ≤ b1 := by omega
  have FT := fun s n o => from_t s n o w1
  have FF := fun s n o => from_f s n o w1
  replace P1 := Lib.hid P1; replace F1 := Lib.hid F1; replace FT := Lib.hid FT; replace FF := Lib.hid FF
  go_enter Try.func12, Try.ntmps12
  go_wp2_with fail
  refine (FF.out _ _ _).mono ?_
  rintro e w2 ⟨rfl, f2⟩
  have p2 := f2.pt P1.out (by simp)
  have c2 := p2.cell
  have z2 := p2.free
  have p3 := (p2.set 0 (.int .i64 5)).set 1 (.int .i64 0)
  have f3 : Fr [b1] w2 ((w2.setCell ⟨b1, 0, none⟩ (.int .i64 5)).setCell ⟨b1, 1, none⟩ (.int .i64 0)) := ((Fr.refl _ w2).setCell (by simp) _).setCell (by simp) _
  obtain ⟨w3, hw3⟩ : ∃ x, (w2.setCell ⟨b1, 0, none⟩ (.int .i64 5)).setCell ⟨b1, 1, none⟩ (.int .i64 0) = x := ⟨_, rfl⟩
  rw [hw3] at p3 f3
  simp only [List.set_cons_zero, List.set_cons_succ] at p3
  have k3 := p3.cell
  have F3 := (F1.out.trans f2).step f3 (fun q hq => .inr (by simp at hq; omega))
  clear hw1 hb1
  replace p2 := Lib.hid p2; replace p3 := Lib.hid p3; replace f2 := Lib.hid f2; replace f3 := Lib.hid f3; replace F3 := Lib.hid F3
  go_wp2_with fail
  refine bodyPost_ret (v := .agg #[.int .i64 5, .int .i64 0]) (by simp [results, Try.results12, go_sem, k3]) rfl ⟨rfl, F3.out⟩
theorem row_6_3 (w : World) : Calls Try.prog 12 #[.int .i64 6, .int .i64 3] w fun e w' => e = .returned (.agg #[.int .i64 6, .int .i64 0]) ∧ Fr [] w w' := by
  obtain ⟨w1, hw1⟩ : ∃ x, w.alloc (.cells #[.int .i64 0, .int .i64 0] RRow) = x := ⟨_, rfl⟩
  have P1 := Pt.newA w RRow #[.int .i64 0, .int .i64 0]
  rw [hw1] at P1
  have F1 : Fr [] w w1 := by rw [← hw1]; exact (Fr.refl [] w).alloc _
  obtain ⟨b1, hb1⟩ : ∃ x, w.heap.size = x := ⟨_, rfl⟩
  rw [hb1] at P1
  have l1 := P1.lt
  have wb : w.heap.size ≤ b1 := by omega
  have FT := fun s n o => from_t s n o w1
  have FF := fun s n o => from_f s n o w1
  replace P1 := Lib.hid P1; replace F1 := Lib.hid F1; replace FT := Lib.hid FT; replace FF := Lib.hid FF
  go_enter Try.func12, Try.ntmps12
  go_wp2_with fail
  refine (FF.out _ _ _).mono ?_
  rintro e w2 ⟨rfl, f2⟩
  have p2 := f2.pt P1.out (by simp)
  have c2 := p2.cell
  have z2 := p2.free
  have p3 := (p2.set 0 (.int .i64 6)).set 1 (.int .i64 0)
  have f3 : Fr [b1] w2 ((w2.setCell ⟨b1, 0, none⟩ (.int .i64 6)).setCell ⟨b1, 1, none⟩ (.int .i64 0)) := ((Fr.refl _ w2).setCell (by simp) _).setCell (by simp) _
  obtain ⟨w3, hw3⟩ : ∃ x, (w2.setCell ⟨b1, 0, none⟩ (.int .i64 6)).setCell ⟨b1, 1, none⟩ (.int .i64 0) = x := ⟨_, rfl⟩
  rw [hw3] at p3 f3
  simp only [List.set_cons_zero, List.set_cons_succ] at p3
  have k3 := p3.cell
  have F3 := (F1.out.trans f2).step f3 (fun q hq => .inr (by simp at hq; omega))
  clear hw1 hb1
  replace p2 := Lib.hid p2; replace p3 := Lib.hid p3; replace f2 := Lib.hid f2; replace f3 := Lib.hid f3; replace F3 := Lib.hid F3
  go_wp2_with fail
  refine bodyPost_ret (v := .agg #[.int .i64 6, .int .i64 0]) (by simp [results, Try.results12, go_sem, k3]) rfl ⟨rfl, F3.out⟩
theorem row_0_4 (w : World) : Calls Try.prog 12 #[.int .i64 0, .int .i64 4] w fun e w' => e = .returned (.agg #[.int .i64 0, .int .i64 0]) ∧ Fr [] w w' := by
  obtain ⟨w1, hw1⟩ : ∃ x, w.alloc (.cells #[.int .i64 0, .int .i64 0] RRow) = x := ⟨_, rfl⟩
  have P1 := Pt.newA w RRow #[.int .i64 0, .int .i64 0]
  rw [hw1] at P1
  have F1 : Fr [] w w1 := by rw [← hw1]; exact (Fr.refl [] w).alloc _
  obtain ⟨b1, hb1⟩ : ∃ x, w.heap.size = x := ⟨_, rfl⟩
  rw [hb1] at P1
  have l1 := P1.lt
  have wb : w.heap.size ≤ b1 := by omega
  have FT := fun s n o => from_t s n o w1
  have FF := fun s n o => from_f s n o w1
  replace P1 := Lib.hid P1; replace F1 := Lib.hid F1; replace FT := Lib.hid FT; replace FF := Lib.hid FF
  go_enter Try.func12, Try.ntmps12
  go_wp2_with fail
  refine (FF.out _ _ _).mono ?_
  rintro e w2 ⟨rfl, f2⟩
  have p2 := f2.pt P1.out (by simp)
  have c2 := p2.cell
  have z2 := p2.free
  have p3 := (p2.set 0 (.int .i64 0)).set 1 (.int .i64 0)
  have f3 : Fr [b1] w2 ((w2.setCell ⟨b1, 0, none⟩ (.int .i64 0)).setCell ⟨b1, 1, none⟩ (.int .i64 0)) := ((Fr.refl _ w2).setCell (by simp) _).setCell (by simp) _
  obtain ⟨w3, hw3⟩ : ∃ x, (w2.setCell ⟨b1, 0, none⟩ (.int .i64 0)).setCell ⟨b1, 1, none⟩ (.int .i64 0) = x := ⟨_, rfl⟩
  rw [hw3] at p3 f3
  simp only [List.set_cons_zero, List.set_cons_succ] at p3
  have k3 := p3.cell
  have F3 := (F1.out.trans f2).step f3 (fun q hq => .inr (by simp at hq; omega))
  clear hw1 hb1
  replace p2 := Lib.hid p2; replace p3 := Lib.hid p3; replace f2 := Lib.hid f2; replace f3 := Lib.hid f3; replace F3 := Lib.hid F3
  go_wp2_with fail
  refine bodyPost_ret (v := .agg #[.int .i64 0, .int .i64 0]) (by simp [results, Try.results12, go_sem, k3]) rfl ⟨rfl, F3.out⟩
theorem row_1_4 (w : World) : Calls Try.prog 12 #[.int .i64 1, .int .i64 4] w fun e w' => e = .returned (.agg #[.int .i64 1, .int .i64 0]) ∧ Fr [] w w' := by
  obtain ⟨w1, hw1⟩ : ∃ x, w.alloc (.cells #[.int .i64 0, .int .i64 0] RRow) = x := ⟨_, rfl⟩
  have P1 := Pt.newA w RRow #[.int .i64 0, .int .i64 0]
  rw [hw1] at P1
  have F1 : Fr [] w w1 := by rw [← hw1]; exact (Fr.refl [] w).alloc _
  obtain ⟨b1, hb1⟩ : ∃ x, w.heap.size = x := ⟨_, rfl⟩
  rw [hb1] at P1
  have l1 := P1.lt
  have wb : w.heap.size ≤ b1 := by omega
  have FT := fun s n o => from_t s n o w1
  have FF := fun s n o => from_f s n o w1
  replace P1 := Lib.hid P1; replace F1 := Lib.hid F1; replace FT := Lib.hid FT; replace FF := Lib.hid FF
  go_enter Try.func12, Try.ntmps12
  go_wp2_with fail
  refine (FF.out _ _ _).mono ?_
  rintro e w2 ⟨rfl, f2⟩
  have p2 := f2.pt P1.out (by simp)
  have c2 := p2.cell
  have z2 := p2.free
  have p3 := (p2.set 0 (.int .i64 1)).set 1 (.int .i64 0)
  have f3 : Fr [b1] w2 ((w2.setCell ⟨b1, 0, none⟩ (.int .i64 1)).setCell ⟨b1, 1, none⟩ (.int .i64 0)) := ((Fr.refl _ w2).setCell (by simp) _).setCell (by simp) _
  obtain ⟨w3, hw3⟩ : ∃ x, (w2.setCell ⟨b1, 0, none⟩ (.int .i64 1)).setCell ⟨b1, 1, none⟩ (.int .i64 0) = x := ⟨_, rfl⟩
  rw [hw3] at p3 f3
  simp only [List.set_cons_zero, List.set_cons_succ] at p3
  have k3 := p3.cell
  have F3 := (F1.out.trans f2).step f3 (fun q hq => .inr (by simp at hq; omega))
  clear hw1 hb1
  replace p2 := Lib.hid p2; replace p3 := Lib.hid p3; replace f2 := Lib.hid f2; replace f3 := Lib.hid f3; replace F3 := Lib.hid F3
  go_wp2_with fail
  refine bodyPost_ret (v := .agg #[.int .i64 1, .int .i64 0]) (by simp [results, Try.results12, go_sem, k3]) rfl ⟨rfl, F3.out⟩
theorem row_2_4 (w : World) : Calls Try.prog 12 #[.int .i64 2, .int .i64 4] w fun e w' => e = .returned (.agg #[.int .i64 2, .int .i64 0]) ∧ Fr [] w w' := by
  obtain ⟨w1, hw1⟩ : ∃ x, w.alloc (.cells #[.int .i64 0, .int .i64 0] RRow) = x := ⟨_, rfl⟩
  have P1 := Pt.newA w RRow #[.int .i64 0, .int .i64 0]
  rw [hw1] at P1
  have F1 : Fr [] w w1 := by rw [← hw1]; exact (Fr.refl [] w).alloc _
  obtain ⟨b1, hb1⟩ : ∃ x, w.heap.size = x := ⟨_, rfl⟩
  rw [hb1] at P1
  have l1 := P1.lt
  have wb : w.heap.size ≤ b1 := by omega
  have FT := fun s n o => from_t s n o w1
  have FF := fun s n o => from_f s n o w1
  replace P1 := Lib.hid P1; replace F1 := Lib.hid F1; replace FT := Lib.hid FT; replace FF := Lib.hid FF
  go_enter Try.func12, Try.ntmps12
  go_wp2_with fail
  refine (FF.out _ _ _).mono ?_
  rintro e w2 ⟨rfl, f2⟩
  have p2 := f2.pt P1.out (by simp)
  have c2 := p2.cell
  have z2 := p2.free
  have p3 := (p2.set 0 (.int .i64 2)).set 1 (.int .i64 0)
  have f3 : Fr [b1] w2 ((w2.setCell ⟨b1, 0, none⟩ (.int .i64 2)).setCell ⟨b1, 1, none⟩ (.int .i64 0)) := ((Fr.refl _ w2).setCell (by simp) _).setCell (by simp) _
  obtain ⟨w3, hw3⟩ : ∃ x, (w2.setCell ⟨b1, 0, none⟩ (.int .i64 2)).setCell ⟨b1, 1, none⟩ (.int .i64 0) = x := ⟨_, rfl⟩
  rw [hw3] at p3 f3
  simp only [List.set_cons_zero, List.set_cons_succ] at p3
  have k3 := p3.cell
  have F3 := (F1.out.trans f2).step f3 (fun q hq => .inr (by simp at hq; omega))
  clear hw1 hb1
  replace p2 := Lib.hid p2; replace p3 := Lib.hid p3; replace f2 := Lib.hid f2; replace f3 := Lib.hid f3; replace F3 := Lib.hid F3
  go_wp2_with fail
  refine bodyPost_ret (v := .agg #[.int .i64 2, .int .i64 0]) (by simp [results, Try.results12, go_sem, k3]) rfl ⟨rfl, F3.out⟩
theorem row_3_4 (w : World) : Calls Try.prog 12 #[.int .i64 3, .int .i64 4] w fun e w' => e = .returned (.agg #[.int .i64 4, .int .i64 1]) ∧ Fr [] w w' := by
  obtain ⟨w1, hw1⟩ : ∃ x, w.alloc (.cells #[.int .i64 0, .int .i64 0] RRow) = x := ⟨_, rfl⟩
  have P1 := Pt.newA w RRow #[.int .i64 0, .int .i64 0]
  rw [hw1] at P1
  have F1 : Fr [] w w1 := by rw [← hw1]; exact (Fr.refl [] w).alloc _
  obtain ⟨b1, hb1⟩ : ∃ x, w.heap.size = x := ⟨_, rfl⟩
  rw [hb1] at P1
  have l1 := P1.lt
  have wb : w.heap.size ≤ b1 := by omega
  have FT := fun s n o => from_t s n o w1
  have FF := fun s n o => from_f s n o w1
  replace P1 := Lib.hid P1; replace F1 := Lib.hid F1; replace FT := Lib.hid FT; replace FF := Lib.hid FF
  go_enter Try.func12, Try.ntmps12
  go_wp2_with fail
  refine (FT.out _ _ _).mono ?_
  rintro e w2 ⟨rfl, f2⟩
  have p2 := f2.pt P1.out (by simp)
  have c2 := p2.cell
  have z2 := p2.free
  have p3 := (p2.set 0 (.int .i64 4)).set 1 (.int .i64 1)
  have f3 : Fr [b1] w2 ((w2.setCell ⟨b1, 0, none⟩ (.int .i64 4)).setCell ⟨b1, 1, none⟩ (.int .i64 1)) := ((Fr.refl _ w2).setCell (by simp) _).setCell (by simp) _
  obtain ⟨w3, hw3⟩ : ∃ x, (w2.setCell ⟨b1, 0, none⟩ (.int .i64 4)).setCell ⟨b1, 1, none⟩ (.int .i64 1) = x := ⟨_, rfl⟩
  rw [hw3] at p3 f3
  simp only [List.set_cons_zero, List.set_cons_succ] at p3
  have k3 := p3.cell
  have F3 := (F1.out.trans f2).step f3 (fun q hq => .inr (by simp at hq; omega))
  clear hw1 hb1
  replace p2 := Lib.hid p2; replace p3 := Lib.hid p3; replace f2 := Lib.hid f2; replace f3 := Lib.hid f3; replace F3 := Lib.hid F3
  go_wp2_with fail
  refine bodyPost_ret (v := .agg #[.int .i64 4, .int .i64 1]) (by simp [results, Try.results12, go_sem, k3]) rfl ⟨rfl, F3.out⟩
theorem row_4_4 (w : World) : Calls Try.prog 12 #[.int .i64 4, .int .i64 4] w fun e w' => e = .returned (.agg #[.int .i64 4, .int .i64 0]) ∧ Fr [] w w' := by
  obtain ⟨w1, hw1⟩ : ∃ x, w.alloc (.cells #[.int .i64 0, .int .i64 0] RRow) = x := ⟨_, rfl⟩
  have P1 := Pt.newA w RRow #[.int .i64 0, .int .i64 0]
  rw [hw1] at P1
  have F1 : Fr [] w w1 := by rw [← hw1]; exact (Fr.refl [] w).alloc _
  obtain ⟨b1, hb1⟩ : ∃ x, w.heap.size = x := ⟨_, rfl⟩
  rw [hb1] at P1
  have l1 := P1.lt
  have wb : w.heap.size ≤ b1 := by omega
  have FT := fun s n o => from_t s n o w1
  have FF := fun s n o => from_f s n o w1
  replace P1 := Lib.hid P1; replace F1 := Lib.hid F1; replace FT := Lib.hid FT; replace FF := Lib.hid FF
  go_enter Try.func12, Try.ntmps12
  go_wp2_with fail
  refine (FF.out _ _ _).mono ?_
  rintro e w2 ⟨rfl, f2⟩
  have p2 := f2.pt P1.out (by simp)
  have c2 := p2.cell
  have z2 := p2.free
  have p3 := (p2.set 0 (.int .i64 4)).set 1 (.int .i64 0)
  have f3 : Fr [b1] w2 ((w2.setCell ⟨b1, 0, none⟩ (.int .i64 4)).setCell ⟨b1, 1, none⟩ (.int .i64 0)) := ((Fr.refl _ w2).setCell (by simp) _).setCell (by simp) _
  obtain ⟨w3, hw3⟩ : ∃ x, (w2.setCell ⟨b1, 0, none⟩ (.int .i64 4)).setCell ⟨b1, 1, none⟩ (.int .i64 0) = x := ⟨_, rfl⟩
  rw [hw3] at p3 f3
  simp only [List.set_cons_zero, List.set_cons_succ] at p3
  have k3 := p3.cell
  have F3 := (F1.out.trans f2).step f3 (fun q hq => .inr (by simp at hq; omega))
  clear hw1 hb1
  replace p2 := Lib.hid p2; replace p3 := Lib.hid p3; replace f2 := Lib.hid f2; replace f3 := Lib.hid f3; replace F3 := Lib.hid F3
  go_wp2_with fail
  refine bodyPost_ret (v := .agg #[.int .i64 4, .int .i64 0]) (by simp [results, Try.results12, go_sem, k3]) rfl ⟨rfl, F3.out⟩
theorem row_5_4 (w : World) : Calls Try.prog 12 #[.int .i64 5, .int .i64 4] w fun e w' => e = .returned (.agg #[.int .i64 5, .int .i64 0]) ∧ Fr [] w w' := by
  obtain ⟨w1, hw1⟩ : ∃ x, w.alloc (.cells #[.int .i64 0, .int .i64 0] RRow) = x := ⟨_, rfl⟩
  have P1 := Pt.newA w RRow #[.int .i64 0, .int .i64 0]
  rw [hw1] at P1
  have F1 : Fr [] w w1 := by rw [← hw1]; exact (Fr.refl [] w).alloc _
  obtain ⟨b1, hb1⟩ : ∃ x, w.heap.size = x := ⟨_, rfl⟩
  rw [hb1] at P1
  have l1 := P1.lt
  have wb : w.heap.size ≤ b1 := by omega
  have FT := fun s n o => from_t s n o w1
  have FF := fun s n o => from_f s n o w1
  replace P1 := Lib.hid P1; replace F1 := Lib.hid F1; replace FT := Lib.hid FT; replace FF := Lib.hid FF
  go_enter Try.func12, Try.ntmps12
  go_wp2_with fail
  refine (FF.out _ _ _).mono ?_
  rintro e w2 ⟨rfl, f2⟩
  have p2 := f2.pt P1.out (by simp)
  have c2 := p2.cell
  have z2 := p2.free
  have p3 := (p2.set 0 (.int .i64 5)).set 1 (.int .i64 0)
  have f3 : Fr [b1] w2 ((w2.setCell ⟨b1, 0, none⟩ (.int .i64 5)).setCell ⟨b1, 1, none⟩ (.int .i64 0)) := ((Fr.refl _ w2).setCell (by simp) _).setCell (by simp) _
  obtain ⟨w3, hw3⟩ : ∃ x, (w2.setCell ⟨b1, 0, none⟩ (.int .i64 5)).setCell ⟨b1, 1, none⟩ (.int .i64 0) = x := ⟨_, rfl⟩
  rw [hw3] at p3 f3
  simp only [List.set_cons_zero, List.set_cons_succ] at p3
  have k3 := p3.cell
  have F3 := (F1.out.trans f2).step f3 (fun q hq => .inr (by simp at hq; omega))
  clear hw1 hb1
  replace p2 := Lib.hid p2; replace p3 := Lib.hid p3; replace f2 := Lib.hid f2; replace f3 := Lib.hid f3; replace F3 := Lib.hid F3
  go_wp2_with fail
  refine bodyPost_ret (v := .agg #[.int .i64 5, .int .i64 0]) (by simp [results, Try.results12, go_sem, k3]) rfl ⟨rfl, F3.out⟩
theorem row_6_4 (w : World) : Calls Try.prog 12 #[.int .i64 6, .int .i64 4] w fun e w' => e = .returned (.agg #[.int .i64 6, .int .i64 0]) ∧ Fr [] w w' := by
  obtain ⟨w1, hw1⟩ : ∃ x, w.alloc (.cells #[.int .i64 0, .int .i64 0] RRow) = x := ⟨_, rfl⟩
  have P1 := Pt.newA w RRow #[.int .i64 0, .int .i64 0]
  rw [hw1] at P1
  have F1 : Fr [] w w1 := by rw [← hw1]; exact (Fr.refl [] w).alloc _
  obtain ⟨b1, hb1⟩ : ∃ x, w.heap.size = x := ⟨_, rfl⟩
  rw [hb1] at P1
  have l1 := P1.lt
  have wb : w.heap.size ≤ b1 := by omega
  have FT := fun s n o => from_t s n o w1
  have FF := fun s n o => from_f s n o w1
  replace P1 := Lib.hid P1; replace F1 := Lib.hid F1; replace FT := Lib.hid FT; replace FF := Lib.hid FF
  go_enter Try.func12, Try.ntmps12
  go_wp2_with fail
  refine (FF.out _ _ _).mono ?_
  rintro e w2 ⟨rfl, f2⟩
  have p2 := f2.pt P1.out (by simp)
  have c2 := p2.cell
  have z2 := p2.free
  have p3 := (p2.set 0 (.int .i64 6)).set 1 (.int .i64 0)
  have f3 : Fr [b1] w2 ((w2.setCell ⟨b1, 0, none⟩ (.int .i64 6)).setCell ⟨b1, 1, none⟩ (.int .i64 0)) := ((Fr.refl _ w2).setCell (by simp) _).setCell (by simp) _
  obtain ⟨w3, hw3⟩ : ∃ x, (w2.setCell ⟨b1, 0, none⟩ (.int .i64 6)).setCell ⟨b1, 1, none⟩ (.int .i64 0) = x := ⟨_, rfl⟩
  rw [hw3] at p3 f3
  simp only [List.set_cons_zero, List.set_cons_succ] at p3
  have k3 := p3.cell
  have F3 := (F1.out.trans f2).step f3 (fun q hq => .inr (by simp at hq; omega))
  clear hw1 hb1
  replace p2 := Lib.hid p2; replace p3 := Lib.hid p3; replace f2 := Lib.hid f2; replace f3 := Lib.hid f3; replace F3 := Lib.hid F3
  go_wp2_with fail
  refine bodyPost_ret (v := .agg #[.int .i64 6, .int .i64 0]) (by simp [results, Try.results12, go_sem, k3]) rfl ⟨rfl, F3.out⟩
theorem row_0_5 (w : World) : Calls Try.prog 12 #[.int .i64 0, .int .i64 5] w fun e w' => e = .returned (.agg #[.int .i64 0, .int .i64 0]) ∧ Fr [] w w' := by
  obtain ⟨w1, hw1⟩ : ∃ x, w.alloc (.cells #[.int .i64 0, .int .i64 0] RRow) = x := ⟨_, rfl⟩
  have P1 := Pt.newA w RRow #[.int .i64 0, .int .i64 0]
  rw [hw1] at P1
  have F1 : Fr [] w w1 := by rw [← hw1]; exact (Fr.refl [] w).alloc _
  obtain ⟨b1, hb1⟩ : ∃ x, w.heap.size = x := ⟨_, rfl⟩
  rw [hb1] at P1
  have l1 := P1.lt
  have wb : w.heap.size ≤ b1 := by omega
  have FT := fun s n o => from_t s n o w1
  have FF := fun s n o => from_f s n o w1
  replace P1 := Lib.hid P1; replace F1 := Lib.hid F1; replace FT := Lib.hid FT; replace FF := Lib.hid FF
  go_enter Try.func12, Try.ntmps12
  go_wp2_with fail
  refine (FF.out _ _ _).mono ?_
  rintro e w2 ⟨rfl, f2⟩
  have p2 := f2.pt P1.out (by simp)
  have c2 := p2.cell
  have z2 := p2.free
  have p3 := (p2.set 0 (.int .i64 0)).set 1 (.int .i64 0)
  have f3 : Fr [b1] w2 ((w2.setCell ⟨b1, 0, none⟩ (.int .i64 0)).setCell ⟨b1, 1, none⟩ (.int .i64 0)) := ((Fr.refl _ w2).setCell (by simp) _).setCell (by simp) _
  obtain ⟨w3, hw3⟩ : ∃ x, (w2.setCell ⟨b1, 0, none⟩ (.int .i64 0)).setCell ⟨b1, 1, none⟩ (.int .i64 0) = x := ⟨_, rfl⟩
  rw [hw3] at p3 f3
  simp only [List.set_cons_zero, List.set_cons_succ] at p3
  have k3 := p3.cell
  have F3 := (F1.out.trans f2).step f3 (fun q hq => .inr (by simp at hq; omega))
  clear hw1 hb1
  replace p2 := Lib.hid p2; replace p3 := Lib.hid p3; replace f2 := Lib.hid f2; replace f3 := Lib.hid f3; replace F3 := Lib.hid F3
  go_wp2_with fail
  refine bodyPost_ret (v := .agg #[.int .i64 0, .int .i64 0]) (by simp [results, Try.results12, go_sem, k3]) rfl ⟨rfl, F3.out⟩
theorem row_1_5 (w : World) : Calls Try.prog 12 #[.int .i64 1, .int .i64 5] w fun e w' => e = .returned (.agg #[.int .i64 1, .int .i64 0]) ∧ Fr [] w w' := by
  obtain ⟨w1, hw1⟩ : ∃ x, w.alloc (.cells #[.int .i64 0, .int .i64 0] RRow) = x := ⟨_, rfl⟩
  have P1 := Pt.newA w RRow #[.int .i64 0, .int .i64 0]
  rw [hw1] at P1
  have F1 : Fr [] w w1 := by rw [← hw1]; exact (Fr.refl [] w).alloc _
  obtain ⟨b1, hb1⟩ : ∃ x, w.heap.size = x := ⟨_, rfl⟩
  rw [hb1] at P1
  have l1 := P1.lt
  have wb : w.heap.size ≤ b1 := by omega
  have FT := fun s n o => from_t s n o w1
  have FF := fun s n o => from_f s n o w1
  replace P1 := Lib.hid P1; replace F1 := Lib.hid F1; replace FT := Lib.hid FT; replace FF := Lib.hid FF
  go_enter Try.func12, Try.ntmps12
  go_wp2_with fail
  refine (FF.out _ _ _).mono ?_
  rintro e w2 ⟨rfl, f2⟩
  have p2 := f2.pt P1.out (by simp)
  have c2 := p2.cell
  have z2 := p2.free
  have p3 := (p2.set 0 (.int .i64 1)).set 1 (.int .i64 0)
  have f3 : Fr [b1] w2 ((w2.setCell ⟨b1, 0, none⟩ (.int .i64 1)).setCell ⟨b1, 1, none⟩ (.int .i64 0)) := ((Fr.refl _ w2).setCell (by simp) _).setCell (by simp) _
  obtain ⟨w3, hw3⟩ : ∃ x, (w2.setCell ⟨b1, 0, none⟩ (.int .i64 1)).setCell ⟨b1, 1, none⟩ (.int .i64 0) = x := ⟨_, rfl⟩
  rw [hw3] at p3 f3
  simp only [List.set_cons_zero, List.set_cons_succ] at p3
  have k3 := p3.cell
  have F3 := (F1.out.trans f2).step f3 (fun q hq => .inr (by simp at hq; omega))
  clear hw1 hb1
  replace p2 := Lib.hid p2; replace p3 := Lib.hid p3; replace f2 := Lib.hid f2; replace f3 := Lib.hid f3; replace F3 := Lib.hid F3
  go_wp2_with fail
  refine bodyPost_ret (v := .agg #[.int .i64 1, .int .i64 0]) (by simp [results, Try.results12, go_sem, k3]) rfl ⟨rfl, F3.out⟩
theorem row_2_5 (w : World) : Calls Try.prog 12 #[.int .i64 2, .int .i64 5] w fun e w' => e = .returned (.agg #[.int .i64 2, .int .i64 0]) ∧ Fr [] w w' := by
  obtain ⟨w1, hw1⟩ : ∃ x, w.alloc (.cells #[.int .i64 0, .int .i64 0] RRow) = x := ⟨_, rfl⟩
  have P1 := Pt.newA w RRow #[.int .i64 0, .int .i64 0]
  rw [hw1] at P1
  have F1 : Fr [] w w1 := by rw [← hw1]; exact (Fr.refl [] w).alloc _
  obtain ⟨b1, hb1⟩ : ∃ x, w.heap.size = x := ⟨_, rfl⟩
  rw [hb1] at P1
  have l1 := P1.lt
  have wb : w.heap.size ≤ b1 := by omega
  have FT := fun s n o => from_t s n o w1
  have FF := fun s n o => from_f s n o w1
  replace P1 := Lib.hid P1; replace F1 := Lib.hid F1; replace FT := Lib.hid FT; replace FF := Lib.hid FF
  go_enter Try.func12, Try.ntmps12
  go_wp2_with fail
  refine (FF.out _ _ _).mono ?_
  rintro e w2 ⟨rfl, f2⟩
  have p2 := f2.pt P1.out (by simp)
  have c2 := p2.cell
  have z2 := p2.free
  have p3 := (p2.set 0 (.int .i64 2)).set 1 (.int .i64 0)
  have f3 : Fr [b1] w2 ((w2.setCell ⟨b1, 0, none⟩ (.int .i64 2)).setCell ⟨b1, 1, none⟩ (.int .i64 0)) := ((Fr.refl _ w2).setCell (by simp) _).setCell (by simp) _
  obtain ⟨w3, hw3⟩ : ∃ x, (w2.setCell ⟨b1, 0, none⟩ (.int .i64 2)).setCell ⟨b1, 1, none⟩ (.int .i64 0) = x := ⟨_, rfl⟩
  rw [hw3] at p3 f3
  simp only [List.set_cons_zero, List.set_cons_succ] at p3
  have k3 := p3.cell
  have F3 := (F1.out.trans f2).step f3 (fun q hq => .inr (by simp at hq; omega))
  clear hw1 hb1
  replace p2 := Lib.hid p2; replace p3 := Lib.hid p3; replace f2 := Lib.hid f2; replace f3 := Lib.hid f3; replace F3 := Lib.hid F3
  go_wp2_with fail
  refine bodyPost_ret (v := .agg #[.int .i64 2, .int .i64 0]) (by simp [results, Try.results12, go_sem, k3]) rfl ⟨rfl, F3.out⟩
theorem row_3_5 (w : World) : Calls Try.prog 12 #[.int .i64 3, .int .i64 5] w fun e w' => e = .returned (.agg #[.int .i64 3, .int .i64 0]) ∧ Fr [] w w' := by
  obtain ⟨w1, hw1⟩ : ∃ x, w.alloc (.cells #[.int .i64 0, .int .i64 0] RRow) = x := ⟨_, rfl⟩
  have P1 := Pt.newA w RRow #[.int .i64 0, .int .i64 0]
  rw [hw1] at P1
  have F1 : Fr [] w w1 := by rw [← hw1]; exact (Fr.refl [] w).alloc _
  obtain ⟨b1, hb1⟩ : ∃ x, w.heap.size = x := ⟨_, rfl⟩
  rw [hb1] at P1
  have l1 := P1.lt
  have wb : w.heap.size ≤ b1 := by omega
  have FT := fun s n o => from_t s n o w1
  have FF := fun s n o => from_f s n o w1
  replace P1 := Lib.hid P1; replace F1 := Lib.hid F1; replace FT := Lib.hid FT; replace FF := Lib.hid FF
  go_enter Try.func12, Try.ntmps12
  go_wp2_with fail
  refine (FF.out _ _ _).mono ?_
  rintro e w2 ⟨rfl, f2⟩
  have p2 := f2.pt P1.out (by simp)
  have c2 := p2.cell
  have z2 := p2.free
  have p3 := (p2.set 0 (.int .i64 3)).set 1 (.int .i64 0)
  have f3 : Fr [b1] w2 ((w2.setCell ⟨b1, 0, none⟩ (.int .i64 3)).setCell ⟨b1, 1, none⟩ (.int .i64 0)) := ((Fr.refl _ w2).setCell (by simp) _).setCell (by simp) _
  obtain ⟨w3, hw3⟩ : ∃ x, (w2.setCell ⟨b1, 0, none⟩ (.int .i64 3)).setCell ⟨b1, 1, none⟩ (.int .i64 0) = x := ⟨_, rfl⟩
  rw [hw3] at p3 f3
  simp only [List.set_cons_zero, List.set_cons_succ] at p3
  have k3 := p3.cell
  have F3 := (F1.out.trans f2).step f3 (fun q hq => .inr (by simp at hq; omega))
  clear hw1 hb1
  replace p2 := Lib.hid p2; replace p3 := Lib.hid p3; replace f2 := Lib.hid f2; replace f3 := Lib.hid f3; replace F3 := Lib.hid F3
  go_wp2_with fail
  refine bodyPost_ret (v := .agg #[.int .i64 3, .int .i64 0]) (by simp [results, Try.results12, go_sem, k3]) rfl ⟨rfl, F3.out⟩
theorem row_4_5 (w : World) : Calls Try.prog 12 #[.int .i64 4, .int .i64 5] w fun e w' => e = .returned (.agg #[.int .i64 4, .int .i64 0]) ∧ Fr [] w w' := by
  obtain ⟨w1, hw1⟩ : ∃ x, w.alloc (.cells #[.int .i64 0, .int .i64 0] RRow) = x := ⟨_, rfl⟩
  have P1 := Pt.newA w RRow #[.int .i64 0, .int .i64 0]
  rw [hw1] at P1
  have F1 : Fr [] w w1 := by rw [← hw1]; exact (Fr.refl [] w).alloc _
  obtain ⟨b1, hb1⟩ : ∃ x, w.heap.size = x := ⟨_, rfl⟩
  rw [hb1] at P1
  have l1 := P1.lt
  have wb : w.heap.size ≤ b1 := by omega
  have FT := fun s n o => from_t s n o w1
  have FF := fun s n o => from_f s n o w1
  replace P1 := Lib.hid P1; replace F1 := Lib.hid F1; replace FT := Lib.hid FT; replace FF := Lib.hid FF
  go_enter Try.func12, Try.ntmps12
  go_wp2_with fail
  refine (FF.out _ _ _).mono ?_
  rintro e w2 ⟨rfl, f2⟩
  have p2 := f2.pt P1.out (by simp)
  have c2 := p2.cell
  have z2 := p2.free
  have p3 := (p2.set 0 (.int .i64 4)).set 1 (.int .i64 0)
  have f3 : Fr [b1] w2 ((w2.setCell ⟨b1, 0, none⟩ (.int .i64 4)).setCell ⟨b1, 1, none⟩ (.int .i64 0)) := ((Fr.refl _ w2).setCell (by simp) _).setCell (by simp) _
  obtain ⟨w3, hw3⟩ : ∃ x, (w2.setCell ⟨b1, 0, none⟩ (.int .i64 4)).setCell ⟨b1, 1, none⟩ (.int .i64 0) = x := ⟨_, rfl⟩
  rw [hw3] at p3 f3
  simp only [List.set_cons_zero, List.set_cons_succ] at p3
  have k3 := p3.cell
  have F3 := (F1.out.trans f2).step f3 (fun q hq => .inr (by simp at hq; omega))
  clear hw1 hb1
  replace p2 := Lib.hid p2; replace p3 := Lib.hid p3; replace f2 := Lib.hid f2; replace f3 := Lib.hid f3; replace F3 := Lib.hid F3
  go_wp2_with fail
  refine bodyPost_ret (v := .agg #[.int .i64 4, .int .i64 0]) (by simp [results, Try.results12, go_sem, k3]) rfl ⟨rfl, F3.out⟩
theorem row_5_5 (w : World) : Calls Try.prog 12 #[.int .i64 5, .int .i64 5] w fun e w' => e = .returned (.agg #[.int .i64 6, .int .i64 1]) ∧ Fr [] w w' := by
  obtain ⟨w1, hw1⟩ : ∃ x, w.alloc (.cells #[.int .i64 0, .int .i64 0] RRow) = x := ⟨_, rfl⟩
  have P1 := Pt.newA w RRow #[.int .i64 0, .int .i64 0]
  rw [hw1] at P1
  have F1 : Fr [] w w1 := by rw [← hw1]; exact (Fr.refl [] w).alloc _
  obtain ⟨b1, hb1⟩ : ∃ x, w.heap.size = x := ⟨_, rfl⟩
  rw [hb1] at P1
  have l1 := P1.lt
  have wb : w.heap.size ≤ b1 := by omega
  have FT := fun s n o => from_t s n o w1
  have FF := fun s n o => from_f s n o w1
  replace P1 := Lib.hid P1; replace F1 := Lib.hid F1; replace FT := Lib.hid FT; replace FF := Lib.hid FF
  go_enter Try.func12, Try.ntmps12
  go_wp2_with fail
  refine (FT.out _ _ _).mono ?_
  rintro e w2 ⟨rfl, f2⟩
  have p2 := f2.pt P1.out (by simp)
  have c2 := p2.cell
  have z2 := p2.free
  have p3 := (p2.set 0 (.int .i64 6)).set 1 (.int .i64 1)
  have f3 : Fr [b1] w2 ((w2.setCell ⟨b1, 0, none⟩ (.int .i64 6)).setCell ⟨b1, 1, none⟩ (.int .i64 1)) := ((Fr.refl _ w2).setCell (by simp) _).setCell (by simp) _
  obtain ⟨w3, hw3⟩ : ∃ x, (w2.setCell ⟨b1, 0, none⟩ (.int .i64 6)).setCell ⟨b1, 1, none⟩ (.int .i64 1) = x := ⟨_, rfl⟩
  rw [hw3] at p3 f3
  simp only [List.set_cons_zero, List.set_cons_succ] at p3
  have k3 := p3.cell
  have F3 := (F1.out.trans f2).step f3 (fun q hq => .inr (by simp at hq; omega))
  clear hw1 hb1
  replace p2 := Lib.hid p2; replace p3 := Lib.hid p3; replace f2 := Lib.hid f2; replace f3 := Lib.hid f3; replace F3 := Lib.hid F3
  go_wp2_with fail
  refine bodyPost_ret (v := .agg #[.int .i64 6, .int .i64 1]) (by simp [results, Try.results12, go_sem, k3]) rfl ⟨rfl, F3.out⟩
theorem row_6_5 (w : World) : Calls Try.prog 12 #[.int .i64 6, .int .i64 5] w fun e w' => e = .returned (.agg #[.int .i64 6, .int .i64 0]) ∧ Fr [] w w' := by
  obtain ⟨w1, hw1⟩ : ∃ x, w.alloc (.cells #[.int .i64 0, .int .i64 0] RRow) = x := ⟨_, rfl⟩
  have P1 := Pt.newA w RRow #[.int .i64 0, .int .i64 0]
  rw [hw1] at P1
  have F1 : Fr [] w w1 := by rw [← hw1]; exact (Fr.refl [] w).alloc _
  obtain ⟨b1, hb1⟩ : ∃ x, w.heap.size = x := ⟨_, rfl⟩
  rw [hb1] at P1
  have l1 := P1.lt
  have wb : w.heap.size ≤ b1 := by omega
  have FT := fun s n o => from_t s n o w1
  have FF := fun s n o => from_f s n o w1
  replace P1 := Lib.hid P1; replace F1 := Lib.hid F1; replace FT := Lib.hid FT; replace FF := Lib.hid FF
  go_enter Try.func12, Try.ntmps12
  go_wp2_with fail
  refine (FF.out _ _ _).mono ?_
  rintro e w2 ⟨rfl, f2⟩
  have p2 := f2.pt P1.out (by simp)
  have c2 := p2.cell
  have z2 := p2.free
  have p3 := (p2.set 0 (.int .i64 6)).set 1 (.int .i64 0)
  have f3 : Fr [b1] w2 ((w2.setCell ⟨b1, 0, none⟩ (.int .i64 6)).setCell ⟨b1, 1, none⟩ (.int .i64 0)) := ((Fr.refl _ w2).setCell (by simp) _).setCell (by simp) _
  obtain ⟨w3, hw3⟩ : ∃ x, (w2.setCell ⟨b1, 0, none⟩ (.int .i64 6)).setCell ⟨b1, 1, none⟩ (.int .i64 0) = x := ⟨_, rfl⟩
  rw [hw3] at p3 f3
  simp only [List.set_cons_zero, List.set_cons_succ] at p3
  have k3 := p3.cell
  have F3 := (F1.out.trans f2).step f3 (fun q hq => .inr (by simp at hq; omega))
  clear hw1 hb1
  replace p2 := Lib.hid p2; replace p3 := Lib.hid p3; replace f2 := Lib.hid f2; replace f3 := Lib.hid f3; replace F3 := Lib.hid F3
  go_wp2_with fail
  refine bodyPost_ret (v := .agg #[.int .i64 6, .int .i64 0]) (by simp [results, Try.results12, go_sem, k3]) rfl ⟨rfl, F3.out⟩
theorem row_0_6 (w : World) : Calls Try.prog 12 #[.int .i64 0, .int .i64 6] w fun e w' => e = .returned (.agg #[.int .i64 0, .int .i64 0]) ∧ Fr [] w w' := by
  obtain ⟨w1, hw1⟩ : ∃ x, w.alloc (.cells #[.int .i64 0, .int .i64 0] RRow) = x := ⟨_, rfl⟩
  have P1 := Pt.newA w RRow #[.int .i64 0, .int .i64 0]
  rw [hw1] at P1
  have F1 : Fr [] w w1 := by rw [← hw1]; exact (Fr.refl [] w).alloc _
  obtain ⟨b1, hb1⟩ : ∃ x, w.heap.size = x := ⟨_, rfl⟩
  rw [hb1] at P1
  have l1 := P1.lt
  have wb : w.heap.size ≤ b1 := by omega
  have FT := fun s n o => from_t s n o w1
  have FF := fun s n o => from_f s n o w1
  replace P1 := Lib.hid P1; replace F1 := Lib.hid F1; replace FT := Lib.hid FT; replace FF := Lib.hid FF
  go_enter Try.func12, Try.ntmps12
  go_wp2_with fail
  refine (FF.out _ _ _).mono ?_
  rintro e w2 ⟨rfl, f2⟩
  have p2 := f2.pt P1.out (by simp)
  have c2 := p2.cell
  have z2 := p2.free
  have p3 := (p2.set 0 (.int .i64 0)).set 1 (.int .i64 0)
  have f3 : Fr [b1] w2 ((w2.setCell ⟨b1, 0, none⟩ (.int .i64 0)).setCell ⟨b1, 1, none⟩ (.int .i64 0)) := ((Fr.refl _ w2).setCell (by simp) _).setCell (by simp) _
  obtain ⟨w3, hw3⟩ : ∃ x, (w2.setCell ⟨b1, 0, none⟩ (.int .i64 0)).setCell ⟨b1, 1, none⟩ (.int .i64 0) = x := ⟨_, rfl⟩
  rw [hw3] at p3 f3
  simp only [List.set_cons_zero, List.set_cons_succ] at p3
  have k3 := p3.cell
  have F3 := (F1.out.trans f2).step f3 (fun q hq => .inr (by simp at hq; omega))
  clear hw1 hb1
  replace p2 := Lib.hid p2; replace p3 := Lib.hid p3; replace f2 := Lib.hid f2; replace f3 := Lib.hid f3; replace F3 := Lib.hid F3
  go_wp2_with fail
  refine bodyPost_ret (v := .agg #[.int .i64 0, .int .i64 0]) (by simp [results, Try.results12, go_sem, k3]) rfl ⟨rfl, F3.out⟩
theorem row_1_6 (w : World) : Calls Try.prog 12 #[.int .i64 1, .int .i64 6] w fun e w' => e = .returned (.agg #[.int .i64 1, .int .i64 0]) ∧ Fr [] w w' := by
  obtain ⟨w1, hw1⟩ : ∃ x, w.alloc (.cells #[.int .i64 0, .int .i64 0] RRow) = x := ⟨_, rfl⟩
  have P1 := Pt.newA w RRow #[.int .i64 0, .int .i64 0]
  rw [hw1] at P1
  have F1 : Fr [] w w1 := by rw [← hw1]; exact (Fr.refl [] w).alloc _
  obtain ⟨b1, hb1⟩ : ∃ x, w.heap.size = x := ⟨_, rfl⟩
  rw [hb1] at P1
  have l1 := P1.lt
  have wb : w.heap.size ≤ b1 := by omega
  have FT := fun s n o => from_t s n o w1
  have FF := fun s n o => from_f s n o w1
  replace P1 := Lib.hid P1; replace F1 := Lib.hid F1; replace FT := Lib.hid FT; replace FF := Lib.hid FF
  go_enter Try.func12, Try.ntmps12
  go_wp2_with fail
  refine (FF.out _ _ _).mono ?_
  rintro e w2 ⟨rfl, f2⟩
  have p2 := f2.pt P1.out (by simp)
  have c2 := p2.cell
  have z2 := p2.free
  have p3 := (p2.set 0 (.int .i64 1)).set 1 (.int .i64 0)
  have f3 : Fr [b1] w2 ((w2.setCell ⟨b1, 0, none⟩ (.int .i64 1)).setCell ⟨b1, 1, none⟩ (.int .i64 0)) := ((Fr.refl _ w2).setCell (by simp) _).setCell (by simp) _
  obtain ⟨w3, hw3⟩ : ∃ x, (w2.setCell ⟨b1, 0, none⟩ (.int .i64 1)).setCell ⟨b1, 1, none⟩ (.int .i64 0) = x := ⟨_, rfl⟩
  rw [hw3] at p3 f3
  simp only [List.set_cons_zero, List.set_cons_succ] at p3
  have k3 := p3.cell
  have F3 := (F1.out.trans f2).step f3 (fun q hq => .inr (by simp at hq; omega))
  clear hw1 hb1
  replace p2 := Lib.hid p2; replace p3 := Lib.hid p3; replace f2 := Lib.hid f2; replace f3 := Lib.hid f3; replace F3 := Lib.hid F3
  go_wp2_with fail
  refine bodyPost_ret (v := .agg #[.int .i64 1, .int .i64 0]) (by simp [results, Try.results12, go_sem, k3]) rfl ⟨rfl, F3.out⟩
theorem row_2_6 (w : World) : Calls Try.prog 12 #[.int .i64 2, .int .i64 6] w fun e w' => e = .returned (.agg #[.int .i64 2, .int .i64 0]) ∧ Fr [] w w' := by
  obtain ⟨w1, hw1⟩ : ∃ x, w.alloc (.cells #[.int .i64 0, .int .i64 0] RRow) = x := ⟨_, rfl⟩
  have P1 := Pt.newA w RRow #[.int .i64 0, .int .i64 0]
  rw [hw1] at P1
  have F1 : Fr [] w w1 := by rw [← hw1]; exact (Fr.refl [] w).alloc _
  obtain ⟨b1, hb1⟩ : ∃ x, w.heap.size = x := ⟨_, rfl⟩
  rw [hb1] at P1
  have l1 := P1.lt
  have wb : w.heap.size ≤ b1 := by omega
  have FT := fun s n o => from_t s n o w1
  have FF := fun s n o => from_f s n o w1
  replace P1 := Lib.hid P1; replace F1 := Lib.hid F1; replace FT := Lib.hid FT; replace FF := Lib.hid FF
  go_enter Try.func12, Try.ntmps12
  go_wp2_with fail
  refine (FF.out _ _ _).mono ?_
  rintro e w2 ⟨rfl, f2⟩
  have p2 := f2.pt P1.out (by simp)
  have c2 := p2.cell
  have z2 := p2.free
  have p3 := (p2.set 0 (.int .i64 2)).set 1 (.int .i64 0)
  have f3 : Fr [b1] w2 ((w2.setCell ⟨b1, 0, none⟩ (.int .i64 2)).setCell ⟨b1, 1, none⟩ (.int .i64 0)) := ((Fr.refl _ w2).setCell (by simp) _).setCell (by simp) _
  obtain ⟨w3, hw3⟩ : ∃ x, (w2.setCell ⟨b1, 0, none⟩ (.int .i64 2)).setCell ⟨b1, 1, none⟩ (.int .i64 0) = x := ⟨_, rfl⟩
  rw [hw3] at p3 f3
  simp only [List.set_cons_zero, List.set_cons_succ] at p3
  have k3 := p3.cell
  have F3 := (F1.out.trans f2).step f3 (fun q hq => .inr (by simp at hq; omega))
  clear hw1 hb1
  replace p2 := Lib.hid p2; replace p3 := Lib.hid p3; replace f2 := Lib.hid f2; replace f3 := Lib.hid f3; replace F3 := Lib.hid F3
  go_wp2_with fail
  refine bodyPost_ret (v := .agg #[.int .i64 2, .int .i64 0]) (by simp [results, Try.results12, go_sem, k3]) rfl ⟨rfl, F3.out⟩
theorem row_3_6 (w : World) : Calls Try.prog 12 #[.int .i64 3, .int .i64 6] w fun e w' => e = .returned (.agg #[.int .i64 3, .int .i64 0]) ∧ Fr [] w w' := by
  obtain ⟨w1, hw1⟩ : ∃ x, w.alloc (.cells #[.int .i64 0, .int .i64 0] RRow) = x := ⟨_, rfl⟩
  have P1 := Pt.newA w RRow #[.int .i64 0, .int .i64 0]
  rw [hw1] at P1
  have F1 : Fr [] w w1 := by rw [← hw1]; exact (Fr.refl [] w).alloc _
  obtain ⟨b1, hb1⟩ : ∃ x, w.heap.size = x := ⟨_, rfl⟩
  rw [hb1] at P1
  have l1 := P1.lt
  have wb : w.heap.size ≤ b1 := by omega
  have FT := fun s n o => from_t s n o w1
  have FF := fun s n o => from_f s n o w1
  replace P1 := Lib.hid P1; replace F1 := Lib.hid F1; replace FT := Lib.hid FT; replace FF := Lib.hid FF
  go_enter Try.func12, Try.ntmps12
  go_wp2_with fail
  refine (FF.out _ _ _).mono ?_
  rintro e w2 ⟨rfl, f2⟩
  have p2 := f2.pt P1.out (by simp)
  have c2 := p2.cell
  have z2 := p2.free
  have p3 := (p2.set 0 (.int .i64 3)).set 1 (.int .i64 0)
  have f3 : Fr [b1] w2 ((w2.setCell ⟨b1, 0, none⟩ (.int .i64 3)).setCell ⟨b1, 1, none⟩ (.int .i64 0)) := ((Fr.refl _ w2).setCell (by simp) _).setCell (by simp) _
  obtain ⟨w3, hw3⟩ : ∃ x, (w2.setCell ⟨b1, 0, none⟩ (.int .i64 3)).setCell ⟨b1, 1, none⟩ (.int .i64 0) = x := ⟨_, rfl⟩
  rw [hw3] at p3 f3
  simp only [List.set_cons_zero, List.set_cons_succ] at p3
  have k3 := p3.cell
  have F3 := (F1.out.trans f2).step f3 (fun q hq => .inr (by simp at hq; omega))
  clear hw1 hb1
  replace p2 := Lib.hid p2; replace p3 := Lib.hid p3; replace f2 := Lib.hid f2; replace f3 := Lib.hid f3; replace F3 := Lib.hid F3
  go_wp2_with fail
  refine bodyPost_ret (v := .agg #[.int .i64 3, .int .i64 0]) (by simp [results, Try.results12, go_sem, k3]) rfl ⟨rfl, F3.out⟩
theorem row_4_6 (w : World) : Calls Try.prog 12 #[.int .i64 4, .int .i64 6] w fun e w' => e = .returned (.agg #[.int .i64 4, .int .i64 0]) ∧ Fr [] w w' := by
  obtain ⟨w1, hw1⟩ : ∃ x, w.alloc (.cells #[.int .i64 0, .int .i64 0] RRow) = x := ⟨_, rfl⟩
  have P1 := Pt.newA w RRow #[.int .i64 0, .int .i64 0]
  rw [hw1] at P1
  have F1 : Fr [] w w1 := by rw [← hw1]; exact (Fr.refl [] w).alloc _
  obtain ⟨b1, hb1⟩ : ∃ x, w.heap.size = x := ⟨_, rfl⟩
  rw [hb1] at P1
  have l1 := P1.lt
  have wb : w.heap.size ≤ b1 := by omega
  have FT := fun s n o => from_t s n o w1
  have FF := fun s n o => from_f s n o w1
  replace P1 := Lib.hid P1; replace F1 := Lib.hid F1; replace FT := Lib.hid FT; replace FF := Lib.hid FF
  go_enter Try.func12, Try.ntmps12
  go_wp2_with fail
  refine (FF.out _ _ _).mono ?_
  rintro e w2 ⟨rfl, f2⟩
  have p2 := f2.pt P1.out (by simp)
  have c2 := p2.cell
  have z2 := p2.free
  have p3 := (p2.set 0 (.int .i64 4)).set 1 (.int .i64 0)
  have f3 : Fr [b1] w2 ((w2.setCell ⟨b1, 0, none⟩ (.int .i64 4)).setCell ⟨b1, 1, none⟩ (.int .i64 0)) := ((Fr.refl _ w2).setCell (by simp) _).setCell (by simp) _
  obtain ⟨w3, hw3⟩ : ∃ x, (w2.setCell ⟨b1, 0, none⟩ (.int .i64 4)).setCell ⟨b1, 1, none⟩ (.int .i64 0) = x := ⟨_, rfl⟩
  rw [hw3] at p3 f3
  simp only [List.set_cons_zero, List.set_cons_succ] at p3
  have k3 := p3.cell
  have F3 := (F1.out.trans f2).step f3 (fun q hq => .inr (by simp at hq; omega))
  clear hw1 hb1
  replace p2 := Lib.hid p2; replace p3 := Lib.hid p3; replace f2 := Lib.hid f2; replace f3 := Lib.hid f3; replace F3 := Lib.hid F3
  go_wp2_with fail
  refine bodyPost_ret (v := .agg #[.int .i64 4, .int .i64 0]) (by simp [results, Try.results12, go_sem, k3]) rfl ⟨rfl, F3.out⟩
theorem row_5_6 (w : World) : Calls Try.prog 12 #[.int .i64 5, .int .i64 6] w fun e w' => e = .returned (.agg #[.int .i64 3, .int .i64 1]) ∧ Fr [] w w' := by
  obtain ⟨w1, hw1⟩ : ∃ x, w.alloc (.cells #[.int .i64 0, .int .i64 0] RRow) = x := ⟨_, rfl⟩
  have P1 := Pt.newA w RRow #[.int .i64 0, .int .i64 0]
  rw [hw1] at P1
  have F1 : Fr [] w w1 := by rw [← hw1]; exact (Fr.refl [] w).alloc _
  obtain ⟨b1, hb1⟩ : ∃ x, w.heap.size = x := ⟨_, rfl⟩
  rw [hb1] at P1
  have l1 := P1.lt
  have wb : w.heap.size ≤ b1 := by omega
  have FT := fun s n o => from_t s n o w1
  have FF := fun s n o => from_f s n o w1
  replace P1 := Lib.hid P1; replace F1 := Lib.hid F1; replace FT := Lib.hid FT; replace FF := Lib.hid FF
  go_enter Try.func12, Try.ntmps12
  go_wp2_with fail
  refine (FT.out _ _ _).mono ?_
  rintro e w2 ⟨rfl, f2⟩
  have p2 := f2.pt P1.out (by simp)
  have c2 := p2.cell
  have z2 := p2.free
  have p3 := (p2.set 0 (.int .i64 3)).set 1 (.int .i64 1)
  have f3 : Fr [b1] w2 ((w2.setCell ⟨b1, 0, none⟩ (.int .i64 3)).setCell ⟨b1, 1, none⟩ (.int .i64 1)) := ((Fr.refl _ w2).setCell (by simp) _).setCell (by simp) _
  obtain ⟨w3, hw3⟩ : ∃ x, (w2.setCell ⟨b1, 0, none⟩ (.int .i64 3)).setCell ⟨b1, 1, none⟩ (.int .i64 1) = x := ⟨_, rfl⟩
  rw [hw3] at p3 f3
  simp only [List.set_cons_zero, List.set_cons_succ] at p3
  have k3 := p3.cell
  have F3 := (F1.out.trans f2).step f3 (fun q hq => .inr (by simp at hq; omega))
  clear hw1 hb1
  replace p2 := Lib.hid p2; replace p3 := Lib.hid p3; replace f2 := Lib.hid f2; replace f3 := Lib.hid f3; replace F3 := Lib.hid F3
  go_wp2_with fail
  refine bodyPost_ret (v := .agg #[.int .i64 3, .int .i64 1]) (by simp [results, Try.results12, go_sem, k3]) rfl ⟨rfl, F3.out⟩
theorem row_6_6 (w : World) : Calls Try.prog 12 #[.int .i64 6, .int .i64 6] w fun e w' => e = .returned (.agg #[.int .i64 6, .int .i64 0]) ∧ Fr [] w w' := by
  obtain ⟨w1, hw1⟩ : ∃ x, w.alloc (.cells #[.int .i64 0, .int .i64 0] RRow) = x := ⟨_, rfl⟩
  have P1 := Pt.newA w RRow #[.int .i64 0, .int .i64 0]
  rw [hw1] at P1
  have F1 : Fr [] w w1 := by rw [← hw1]; exact (Fr.refl [] w).alloc _
  obtain ⟨b1, hb1⟩ : ∃ x, w.heap.size = x := ⟨_, rfl⟩
  rw [hb1] at P1
  have l1 := P1.lt
  have wb : w.heap.size ≤ b1 := by omega
  have FT := fun s n o => from_t s n o w1
  have FF := fun s n o => from_f s n o w1
  replace P1 := Lib.hid P1; replace F1 := Lib.hid F1; replace FT := Lib.hid FT; replace FF := Lib.hid FF
  go_enter Try.func12, Try.ntmps12
  go_wp2_with fail
  refine (FF.out _ _ _).mono ?_
  rintro e w2 ⟨rfl, f2⟩
  have p2 := f2.pt P1.out (by simp)
  have c2 := p2.cell
  have z2 := p2.free
  have p3 := (p2.set 0 (.int .i64 6)).set 1 (.int .i64 0)
  have f3 : Fr [b1] w2 ((w2.setCell ⟨b1, 0, none⟩ (.int .i64 6)).setCell ⟨b1, 1, none⟩ (.int .i64 0)) := ((Fr.refl _ w2).setCell (by simp) _).setCell (by simp) _
  obtain ⟨w3, hw3⟩ : ∃ x, (w2.setCell ⟨b1, 0, none⟩ (.int .i64 6)).setCell ⟨b1, 1, none⟩ (.int .i64 0) = x := ⟨_, rfl⟩
  rw [hw3] at p3 f3
  simp only [List.set_cons_zero, List.set_cons_succ] at p3
  have k3 := p3.cell
  have F3 := (F1.out.trans f2).step f3 (fun q hq => .inr (by simp at hq; omega))
  clear hw1 hb1
  replace p2 := Lib.hid p2; replace p3 := Lib.hid p3; replace f2 := Lib.hid f2; replace f3 := Lib.hid f3; replace F3 := Lib.hid F3
  go_wp2_with fail
  refine bodyPost_ret (v := .agg #[.int .i64 6, .int .i64 0]) (by simp [results, Try.results12, go_sem, k3]) rfl ⟨rfl, F3.out⟩
theorem row_0_7 (w : World) : Calls Try.prog 12 #[.int .i64 0, .int .i64 7] w fun e w' => e = .returned (.agg #[.int .i64 0, .int .i64 0]) ∧ Fr [] w w' := by
  obtain ⟨w1, hw1⟩ : ∃ x, w.alloc (.cells #[.int .i64 0, .int .i64 0] RRow) = x := ⟨_, rfl⟩
  have P1 := Pt.newA w RRow #[.int .i64 0, .int .i64 0]
  rw [hw1] at P1
  have F1 : Fr [] w w1 := by rw [← hw1]; exact (Fr.refl [] w).alloc _
  obtain ⟨b1, hb1⟩ : ∃ x, w.heap.size = x := ⟨_, rfl⟩
  rw [hb1] at P1
  have l1 := P1.lt
  have wb : w.heap.size ≤ b1 := by omega
  have FT := fun s n o => from_t s n o w1
  have FF := fun s n o => from_f s n o w1
  replace P1 := Lib.hid P1; replace F1 := Lib.hid F1; replace FT := Lib.hid FT; replace FF := Lib.hid FF
  go_enter Try.func12, Try.ntmps12
  go_wp2_with fail
  refine (FF.out _ _ _).mono ?_
  rintro e w2 ⟨rfl, f2⟩
  have p2 := f2.pt P1.out (by simp)
  have c2 := p2.cell
  have z2 := p2.free
  have p3 := (p2.set 0 (.int .i64 0)).set 1 (.int .i64 0)
  have f3 : Fr [b1] w2 ((w2.setCell ⟨b1, 0, none⟩ (.int .i64 0)).setCell ⟨b1, 1, none⟩ (.int .i64 0)) := ((Fr.refl _ w2).setCell (by simp) _).setCell (by simp) _
  obtain ⟨w3, hw3⟩ : ∃ x, (w2.setCell ⟨b1, 0, none⟩ (.int .i64 0)).setCell ⟨b1, 1, none⟩ (.int .i64 0) = x := ⟨_, rfl⟩
  rw [hw3] at p3 f3
  simp only [List.set_cons_zero, List.set_cons_succ] at p3
  have k3 := p3.cell
  have F3 := (F1.out.trans f2).step f3 (fun q hq => .inr (by simp at hq; omega))
  clear hw1 hb1
  replace p2 := Lib.hid p2; replace p3 := Lib.hid p3; replace f2 := Lib.hid f2; replace f3 := Lib.hid f3; replace F3 := Lib.hid F3
  go_wp2_with fail
  refine bodyPost_ret (v := .agg #[.int .i64 0, .int .i64 0]) (by simp [results, Try.results12, go_sem, k3]) rfl ⟨rfl, F3.out⟩
theorem row_1_7 (w : World) : Calls Try.prog 12 #[.int .i64 1, .int .i64 7] w fun e w' => e = .returned (.agg #[.int .i64 6, .int .i64 1]) ∧ Fr [] w w' := by
  obtain ⟨w1, hw1⟩ : ∃ x, w.alloc (.cells #[.int .i64 0, .int .i64 0] RRow) = x := ⟨_, rfl⟩
  have P1 := Pt.newA w RRow #[.int .i64 0, .int .i64 0]
  rw [hw1] at P1
  have F1 : Fr [] w w1 := by rw [← hw1]; exact (Fr.refl [] w).alloc _
  obtain ⟨b1, hb1⟩ : ∃ x, w.heap.size = x := ⟨_, rfl⟩
  rw [hb1] at P1
  have l1 := P1.lt
  have wb : w.heap.size ≤ b1 := by omega
  have FT := fun s n o => from_t s n o w1
  have FF := fun s n o => from_f s n o w1
  replace P1 := Lib.hid P1; replace F1 := Lib.hid F1; replace FT := Lib.hid FT; replace FF := Lib.hid FF
  go_enter Try.func12, Try.ntmps12
  go_wp2_with fail
  refine (FT.out _ _ _).mono ?_
  rintro e w2 ⟨rfl, f2⟩
  have p2 := f2.pt P1.out (by simp)
  have c2 := p2.cell
  have z2 := p2.free
  have p3 := (p2.set 0 (.int .i64 6)).set 1 (.int .i64 1)
  have f3 : Fr [b1] w2 ((w2.setCell ⟨b1, 0, none⟩ (.int .i64 6)).setCell ⟨b1, 1, none⟩ (.int .i64 1)) := ((Fr.refl _ w2).setCell (by simp) _).setCell (by simp) _
  obtain ⟨w3, hw3⟩ : ∃ x, (w2.setCell ⟨b1, 0, none⟩ (.int .i64 6)).setCell ⟨b1, 1, none⟩ (.int .i64 1) = x := ⟨_, rfl⟩
  rw [hw3] at p3 f3
  simp only [List.set_cons_zero, List.set_cons_succ] at p3
  have k3 := p3.cell
  have F3 := (F1.out.trans f2).step f3 (fun q hq => .inr (by simp at hq; omega))
  clear hw1 hb1
  replace p2 := Lib.hid p2; replace p3 := Lib.hid p3; replace f2 := Lib.hid f2; replace f3 := Lib.hid f3; replace F3 := Lib.hid F3
  go_wp2_with fail
  refine bodyPost_ret (v := .agg #[.int .i64 6, .int .i64 1]) (by simp [results, Try.results12, go_sem, k3]) rfl ⟨rfl, F3.out⟩
theorem row_2_7 (w : World) : Calls Try.prog 12 #[.int .i64 2, .int .i64 7] w fun e w' => e = .returned (.agg #[.int .i64 6, .int .i64 1]) ∧ Fr [] w w' := by
  obtain ⟨w1, hw1⟩ : ∃ x, w.alloc (.cells #[.int .i64 0, .int .i64 0] RRow) = x := ⟨_, rfl⟩
  have P1 := Pt.newA w RRow #[.int .i64 0, .int .i64 0]
  rw [hw1] at P1
  have F1 : Fr [] w w1 := by rw [← hw1]; exact (Fr.refl [] w).alloc _
  obtain ⟨b1, hb1⟩ : ∃ x, w.heap.size = x := ⟨_, rfl⟩
  rw [hb1] at P1
  have l1 := P1.lt
  have wb : w.heap.size ≤ b1 := by omega
  have FT := fun s n o => from_t s n o w1
  have FF := fun s n o => from_f s n o w1
  replace P1 := Lib.hid P1; replace F1 := Lib.hid F1; replace FT := Lib.hid FT; replace FF := Lib.hid FF
  go_enter Try.func12, Try.ntmps12
  go_wp2_with fail
  refine (FT.out _ _ _).mono ?_
  rintro e w2 ⟨rfl, f2⟩
  have p2 := f2.pt P1.out (by simp)
  have c2 := p2.cell
  have z2 := p2.free
  have p3 := (p2.set 0 (.int .i64 6)).set 1 (.int .i64 1)
  have f3 : Fr [b1] w2 ((w2.setCell ⟨b1, 0, none⟩ (.int .i64 6)).setCell ⟨b1, 1, none⟩ (.int .i64 1)) := ((Fr.refl _ w2).setCell (by simp) _).setCell (by simp) _
  obtain ⟨w3, hw3⟩ : ∃ x, (w2.setCell ⟨b1, 0, none⟩ (.int .i64 6)).setCell ⟨b1, 1, none⟩ (.int .i64 1) = x := ⟨_, rfl⟩
  rw [hw3] at p3 f3
  simp only [List.set_cons_zero, List.set_cons_succ] at p3
  have k3 := p3.cell
  have F3 := (F1.out.trans f2).step f3 (fun q hq => .inr (by simp at hq; omega))
  clear hw1 hb1
  replace p2 := Lib.hid p2; replace p3 := Lib.hid p3; replace f2 := Lib.hid f2; replace f3 := Lib.hid f3; replace F3 := Lib.hid F3
  go_wp2_with fail
  refine bodyPost_ret (v := .agg #[.int .i64 6, .int .i64 1]) (by simp [results, Try.results12, go_sem, k3]) rfl ⟨rfl, F3.out⟩
theorem row_3_7 (w : World) : Calls Try.prog 12 #[.int .i64 3, .int .i64 7] w fun e w' => e = .returned (.agg #[.int .i64 6, .int .i64 1]) ∧ Fr [] w w' := by
  obtain ⟨w1, hw1⟩ : ∃ x, w.alloc (.cells #[.int .i64 0, .int .i64 0] RRow) = x := ⟨_, rfl⟩
  have P1 := Pt.newA w RRow #[.int .i64 0, .int .i64 0]
  rw [hw1] at P1
  have F1 : Fr [] w w1 := by rw [← hw1]; exact (Fr.refl [] w).alloc _
  obtain ⟨b1, hb1⟩ : ∃ x, w.heap.size = x := ⟨_, rfl⟩
  rw [hb1] at P1
  have l1 := P1.lt
  have wb : w.heap.size ≤ b1 := by omega
  have FT := fun s n o => from_t s n o w1
  have FF := fun s n o => from_f s n o w1
  replace P1 := Lib.hid P1; replace F1 := Lib.hid F1; replace FT := Lib.hid FT; replace FF := Lib.hid FF
  go_enter Try.func12, Try.ntmps12
  go_wp2_with fail
  refine (FT.out _ _ _).mono ?_
  rintro e w2 ⟨rfl, f2⟩
  have p2 := f2.pt P1.out (by simp)
  have c2 := p2.cell
  have z2 := p2.free
  have p3 := (p2.set 0 (.int .i64 6)).set 1 (.int .i64 1)
  have f3 : Fr [b1] w2 ((w2.setCell ⟨b1, 0, none⟩ (.int .i64 6)).setCell ⟨b1, 1, none⟩ (.int .i64 1)) := ((Fr.refl _ w2).setCell (by simp) _).setCell (by simp) _
  obtain ⟨w3, hw3⟩ : ∃ x, (w2.setCell ⟨b1, 0, none⟩ (.int .i64 6)).setCell ⟨b1, 1, none⟩ (.int .i64 1) = x := ⟨_, rfl⟩
  rw [hw3] at p3 f3
  simp only [List.set_cons_zero, List.set_cons_succ] at p3
  have k3 := p3.cell
  have F3 := (F1.out.trans f2).step f3 (fun q hq => .inr (by simp at hq; omega))
  clear hw1 hb1
  replace p2 := Lib.hid p2; replace p3 := Lib.hid p3; replace f2 := Lib.hid f2; replace f3 := Lib.hid f3; replace F3 := Lib.hid F3
  go_wp2_with fail
  refine bodyPost_ret (v := .agg #[.int .i64 6, .int .i64 1]) (by simp [results, Try.results12, go_sem, k3]) rfl ⟨rfl, F3.out⟩
theorem row_4_7 (w : World) : Calls Try.prog 12 #[.int .i64 4, .int .i64 7] w fun e w' => e = .returned (.agg #[.int .i64 6, .int .i64 1]) ∧ Fr [] w w' := by
  obtain ⟨w1, hw1⟩ : ∃ x, w.alloc (.cells #[.int .i64 0, .int .i64 0] RRow) = x := ⟨_, rfl⟩
  have P1 := Pt.newA w RRow #[.int .i64 0, .int .i64 0]
  rw [hw1] at P1
  have F1 : Fr [] w w1 := by rw [← hw1]; exact (Fr.refl [] w).alloc _
  obtain ⟨b1, hb1⟩ : ∃ x, w.heap.size = x := ⟨_, rfl⟩
  rw [hb1] at P1
  have l1 := P1.lt
  have wb : w.heap.size ≤ b1 := by omega
  have FT := fun s n o => from_t s n o w1
  have FF := fun s n o => from_f s n o w1
  replace P1 := Lib.hid P1; replace F1 := Lib.hid F1; replace FT := Lib.hid FT; replace FF := Lib.hid FF
  go_enter Try.func12, Try.ntmps12
  go_wp2_with fail
  refine (FT.out _ _ _).mono ?_
  rintro e w2 ⟨rfl, f2⟩
  have p2 := f2.pt P1.out (by simp)
  have c2 := p2.cell
  have z2 := p2.free
  have p3 := (p2.set 0 (.int .i64 6)).set 1 (.int .i64 1)
  have f3 : Fr [b1] w2 ((w2.setCell ⟨b1, 0, none⟩ (.int .i64 6)).setCell ⟨b1, 1, none⟩ (.int .i64 1)) := ((Fr.refl _ w2).setCell (by simp) _).setCell (by simp) _
  obtain ⟨w3, hw3⟩ : ∃ x, (w2.setCell ⟨b1, 0, none⟩ (.int .i64 6)).setCell ⟨b1, 1, none⟩ (.int .i64 1) = x := ⟨_, rfl⟩
  rw [hw3] at p3 f3
  simp only [List.set_cons_zero, List.set_cons_succ] at p3
  have k3 := p3.cell
  have F3 := (F1.out.trans f2).step f3 (fun q hq => .inr (by simp at hq; omega))
  clear hw1 hb1
  replace p2 := Lib.hid p2; replace p3 := Lib.hid p3; replace f2 := Lib.hid f2; replace f3 := Lib.hid f3; replace F3 := Lib.hid F3
  go_wp2_with fail
  refine bodyPost_ret (v := .agg #[.int .i64 6, .int .i64 1]) (by simp [results, Try.results12, go_sem, k3]) rfl ⟨rfl, F3.out⟩
theorem row_5_7 (w : World) : Calls Try.prog 12 #[.int .i64 5, .int .i64 7] w fun e w' => e = .returned (.agg #[.int .i64 6, .int .i64 1]) ∧ Fr [] w w' := by
  obtain ⟨w1, hw1⟩ : ∃ x, w.alloc (.cells #[.int .i64 0, .int .i64 0] RRow) = x := ⟨_, rfl⟩
  have P1 := Pt.newA w RRow #[.int .i64 0, .int .i64 0]
  rw [hw1] at P1
  have F1 : Fr [] w w1 := by rw [← hw1]; exact (Fr.refl [] w).alloc _
  obtain ⟨b1, hb1⟩ : ∃ x, w.heap.size = x := ⟨_, rfl⟩
  rw [hb1] at P1
  have l1 := P1.lt
  have wb : w.heap.size ≤ b1 := by omega
  have FT := fun s n o => from_t s n o w1
  have FF := fun s n o => from_f s n o w1
  replace P1 := Lib.hid P1; replace F1 := Lib.hid F1; replace FT := Lib.hid FT; replace FF := Lib.hid FF
  go_enter Try.func12, Try.ntmps12
  go_wp2_with fail
  refine (FT.out _ _ _).mono ?_
  rintro e w2 ⟨rfl, f2⟩
  have p2 := f2.pt P1.out (by simp)
  have c2 := p2.cell
  have z2 := p2.free
  have p3 := (p2.set 0 (.int .i64 6)).set 1 (.int .i64 1)
  have f3 : Fr [b1] w2 ((w2.setCell ⟨b1, 0, none⟩ (.int .i64 6)).setCell ⟨b1, 1, none⟩ (.int .i64 1)) := ((Fr.refl _ w2).setCell (by simp) _).setCell (by simp) _
  obtain ⟨w3, hw3⟩ : ∃ x, (w2.setCell ⟨b1, 0, none⟩ (.int .i64 6)).setCell ⟨b1, 1, none⟩ (.int .i64 1) = x := ⟨_, rfl⟩
  rw [hw3] at p3 f3
  simp only [List.set_cons_zero, List.set_cons_succ] at p3
  have k3 := p3.cell
  have F3 := (F1.out.trans f2).step f3 (fun q hq => .inr (by simp at hq; omega))
  clear hw1 hb1
  replace p2 := Lib.hid p2; replace p3 := Lib.hid p3; replace f2 := Lib.hid f2; replace f3 := Lib.hid f3; replace F3 := Lib.hid F3
  go_wp2_with fail
  refine bodyPost_ret (v := .agg #[.int .i64 6, .int .i64 1]) (by simp [results, Try.results12, go_sem, k3]) rfl ⟨rfl, F3.out⟩
theorem row_6_7 (w : World) : Calls Try.prog 12 #[.int .i64 6, .int .i64 7] w fun e w' => e = .returned (.agg #[.int .i64 6, .int .i64 0]) ∧ Fr [] w w' := by
  obtain ⟨w1, hw1⟩ : ∃ x, w.alloc (.cells #[.int .i64 0, .int .i64 0] RRow) = x := ⟨_, rfl⟩
  have P1 := Pt.newA w RRow #[.int .i64 0, .int .i64 0]
  rw [hw1] at P1
  have F1 : Fr [] w w1 := by rw [← hw1]; exact (Fr.refl [] w).alloc _
  obtain ⟨b1, hb1⟩ : ∃ x, w.heap.size = x := ⟨_, rfl⟩
  rw [hb1] at P1
  have l1 := P1.lt
  have wb : w.heap.size ≤ b1 := by omega
  have FT := fun s n o => from_t s n o w1
  have FF := fun s n o => from_f s n o w1
  replace P1 := Lib.hid P1; replace F1 := Lib.hid F1; replace FT := Lib.hid FT; replace FF := Lib.hid FF
  go_enter Try.func12, Try.ntmps12
  go_wp2_with fail
  refine (FF.out _ _ _).mono ?_
  rintro e w2 ⟨rfl, f2⟩
  have p2 := f2.pt P1.out (by simp)
  have c2 := p2.cell
  have z2 := p2.free
  have p3 := (p2.set 0 (.int .i64 6)).set 1 (.int .i64 0)
  have f3 : Fr [b1] w2 ((w2.setCell ⟨b1, 0, none⟩ (.int .i64 6)).setCell ⟨b1, 1, none⟩ (.int .i64 0)) := ((Fr.refl _ w2).setCell (by simp) _).setCell (by simp) _
  obtain ⟨w3, hw3⟩ : ∃ x, (w2.setCell ⟨b1, 0, none⟩ (.int .i64 6)).setCell ⟨b1, 1, none⟩ (.int .i64 0) = x := ⟨_, rfl⟩
  rw [hw3] at p3 f3
  simp only [List.set_cons_zero, List.set_cons_succ] at p3
  have k3 := p3.cell
  have F3 := (F1.out.trans f2).step f3 (fun q hq => .inr (by simp at hq; omega))
  clear hw1 hb1
  replace p2 := Lib.hid p2; replace p3 := Lib.hid p3; replace f2 := Lib.hid f2; replace f3 := Lib.hid f3; replace F3 := Lib.hid F3
  go_wp2_with fail
  refine bodyPost_ret (v := .agg #[.int .i64 6, .int .i64 0]) (by simp [results, Try.results12, go_sem, k3]) rfl ⟨rfl, F3.out⟩
theorem row_0_8 (w : World) : Calls Try.prog 12 #[.int .i64 0, .int .i64 8] w fun e w' => e = .returned (.agg #[.int .i64 2, .int .i64 2]) ∧ Fr [] w w' := by
  obtain ⟨w1, hw1⟩ : ∃ x, w.alloc (.cells #[.int .i64 2, .int .i64 2] RRow) = x := ⟨_, rfl⟩
  have P1 := Pt.newA w RRow #[.int .i64 2, .int .i64 2]
  rw [hw1] at P1
  have F1 : Fr [] w w1 := by rw [← hw1]; exact (Fr.refl [] w).alloc _
  have k1 := P1.cell
  have hw1' := Lib.hid hw1
  clear hw1
  replace P1 := Lib.hid P1; replace F1 := Lib.hid F1
  go_enter Try.func12, Try.ntmps12
  go_wp2_with fail
  rw [hw1'.out]
  refine bodyPost_ret (v := .agg #[.int .i64 2, .int .i64 2]) (by simp [results, Try.results12, go_sem, k1]) rfl ⟨rfl, F1.out⟩
theorem row_1_8 (w : World) : Calls Try.prog 12 #[.int .i64 1, .int .i64 8] w fun e w' => e = .returned (.agg #[.int .i64 6, .int .i64 3]) ∧ Fr [] w w' := by
  obtain ⟨w1, hw1⟩ : ∃ x, w.alloc (.cells #[.int .i64 0, .int .i64 0] RRow) = x := ⟨_, rfl⟩
  have P1 := Pt.newA w RRow #[.int .i64 0, .int .i64 0]
  rw [hw1] at P1
  have F1 : Fr [] w w1 := by rw [← hw1]; exact (Fr.refl [] w).alloc _
  obtain ⟨b1, hb1⟩ : ∃ x, w.heap.size = x := ⟨_, rfl⟩
  rw [hb1] at P1
  have l1 := P1.lt
  have wb : w.heap.size ≤ b1 := by omega
  have FT := fun s n o => from_t s n o w1
  have FF := fun s n o => from_f s n o w1
  replace P1 := Lib.hid P1; replace F1 := Lib.hid F1; replace FT := Lib.hid FT; replace FF := Lib.hid FF
  go_enter Try.func12, Try.ntmps12
  go_wp2_with fail
  refine (FT.out _ _ _).mono ?_
  rintro e w2 ⟨rfl, f2⟩
  have p2 := f2.pt P1.out (by simp)
  have c2 := p2.cell
  have z2 := p2.free
  have p3 := (p2.set 0 (.int .i64 6)).set 1 (.int .i64 3)
  have f3 : Fr [b1] w2 ((w2.setCell ⟨b1, 0, none⟩ (.int .i64 6)).setCell ⟨b1, 1, none⟩ (.int .i64 3)) := ((Fr.refl _ w2).setCell (by simp) _).setCell (by simp) _
  obtain ⟨w3, hw3⟩ : ∃ x, (w2.setCell ⟨b1, 0, none⟩ (.int .i64 6)).setCell ⟨b1, 1, none⟩ (.int .i64 3) = x := ⟨_, rfl⟩
  rw [hw3] at p3 f3
  simp only [List.set_cons_zero, List.set_cons_succ] at p3
  have k3 := p3.cell
  have F3 := (F1.out.trans f2).step f3 (fun q hq => .inr (by simp at hq; omega))
  clear hw1 hb1
  replace p2 := Lib.hid p2; replace p3 := Lib.hid p3; replace f2 := Lib.hid f2; replace f3 := Lib.hid f3; replace F3 := Lib.hid F3
  go_wp2_with fail
  refine bodyPost_ret (v := .agg #[.int .i64 6, .int .i64 3]) (by simp [results, Try.results12, go_sem, k3]) rfl ⟨rfl, F3.out⟩
theorem row_2_8 (w : World) : Calls Try.prog 12 #[.int .i64 2, .int .i64 8] w fun e w' => e = .returned (.agg #[.int .i64 6, .int .i64 3]) ∧ Fr [] w w' := by
  obtain ⟨w1, hw1⟩ : ∃ x, w.alloc (.cells #[.int .i64 0, .int .i64 0] RRow) = x := ⟨_, rfl⟩
  have P1 := Pt.newA w RRow #[.int .i64 0, .int .i64 0]
  rw [hw1] at P1
  have F1 : Fr [] w w1 := by rw [← hw1]; exact (Fr.refl [] w).alloc _
  obtain ⟨b1, hb1⟩ : ∃ x, w.heap.size = x := ⟨_, rfl⟩
  rw [hb1] at P1
  have l1 := P1.lt
  have wb : w.heap.size ≤ b1 := by omega
  have FT := fun s n o => from_t s n o w1
  have FF := fun s n o => from_f s n o w1
  replace P1 := Lib.hid P1; replace F1 := Lib.hid F1; replace FT := Lib.hid FT; replace FF := Lib.hid FF
  go_enter Try.func12, Try.ntmps12
  go_wp2_with fail
  refine (FT.out _ _ _).mono ?_
  rintro e w2 ⟨rfl, f2⟩
  have p2 := f2.pt P1.out (by simp)
  have c2 := p2.cell
  have z2 := p2.free
  have p3 := (p2.set 0 (.int .i64 6)).set 1 (.int .i64 3)
  have f3 : Fr [b1] w2 ((w2.setCell ⟨b1, 0, none⟩ (.int .i64 6)).setCell ⟨b1, 1, none⟩ (.int .i64 3)) := ((Fr.refl _ w2).setCell (by simp) _).setCell (by simp) _
  obtain ⟨w3, hw3⟩ : ∃ x, (w2.setCell ⟨b1, 0, none⟩ (.int .i64 6)).setCell ⟨b1, 1, none⟩ (.int .i64 3) = x := ⟨_, rfl⟩
  rw [hw3] at p3 f3
  simp only [List.set_cons_zero, List.set_cons_succ] at p3
  have k3 := p3.cell
  have F3 := (F1.out.trans f2).step f3 (fun q hq => .inr (by simp at hq; omega))
  clear hw1 hb1
  replace p2 := Lib.hid p2; replace p3 := Lib.hid p3; replace f2 := Lib.hid f2; replace f3 := Lib.hid f3; replace F3 := Lib.hid F3
  go_wp2_with fail
  refine bodyPost_ret (v := .agg #[.int .i64 6, .int .i64 3]) (by simp [results, Try.results12, go_sem, k3]) rfl ⟨rfl, F3.out⟩
theorem row_3_8 (w : World) : Calls Try.prog 12 #[.int .i64 3, .int .i64 8] w fun e w' => e = .returned (.agg #[.int .i64 6, .int .i64 3]) ∧ Fr [] w w' := by
  obtain ⟨w1, hw1⟩ : ∃ x, w.alloc (.cells #[.int .i64 0, .int .i64 0] RRow) = x := ⟨_, rfl⟩
  have P1 := Pt.newA w RRow #[.int .i64 0, .int .i64 0]
  rw [hw1] at P1
  have F1 : Fr [] w w1 := by rw [← hw1]; exact (Fr.refl [] w).alloc _
  obtain ⟨b1, hb1⟩ : ∃ x, w.heap.size = x := ⟨_, rfl⟩
  rw [hb1] at P1
  have l1 := P1.lt
  have wb : w.heap.size ≤ b1 := by omega
  have FT := fun s n o => from_t s n o w1
  have FF := fun s n o => from_f s n o w1
  replace P1 := Lib.hid P1; replace F1 := Lib.hid F1; replace FT := Lib.hid FT; replace FF := Lib.hid FF
  go_enter Try.func12, Try.ntmps12
  go_wp2_with fail
  refine (FT.out _ _ _).mono ?_
  rintro e w2 ⟨rfl, f2⟩
  have p2 := f2.pt P1.out (by simp)
  have c2 := p2.cell
  have z2 := p2.free
  have p3 := (p2.set 0 (.int .i64 6)).set 1 (.int .i64 3)
  have f3 : Fr [b1] w2 ((w2.setCell ⟨b1, 0, none⟩ (.int .i64 6)).setCell ⟨b1, 1, none⟩ (.int .i64 3)) := ((Fr.refl _ w2).setCell (by simp) _).setCell (by simp) _
  obtain ⟨w3, hw3⟩ : ∃ x, (w2.setCell ⟨b1, 0, none⟩ (.int .i64 6)).setCell ⟨b1, 1, none⟩ (.int .i64 3) = x := ⟨_, rfl⟩
  rw [hw3] at p3 f3
  simp only [List.set_cons_zero, List.set_cons_succ] at p3
  have k3 := p3.cell
  have F3 := (F1.out.trans f2).step f3 (fun q hq => .inr (by simp at hq; omega))
  clear hw1 hb1
  replace p2 := Lib.hid p2; replace p3 := Lib.hid p3; replace f2 := Lib.hid f2; replace f3 := Lib.hid f3; replace F3 := Lib.hid F3
  go_wp2_with fail
  refine bodyPost_ret (v := .agg #[.int .i64 6, .int .i64 3]) (by simp [results, Try.results12, go_sem, k3]) rfl ⟨rfl, F3.out⟩
theorem row_4_8 (w : World) : Calls Try.prog 12 #[.int .i64 4, .int .i64 8] w fun e w' => e = .returned (.agg #[.int .i64 6, .int .i64 3]) ∧ Fr [] w w' := by
  obtain ⟨w1, hw1⟩ : ∃ x, w.alloc (.cells #[.int .i64 0, .int .i64 0] RRow) = x := ⟨_, rfl⟩
  have P1 := Pt.newA w RRow #[.int .i64 0, .int .i64 0]
  rw [hw1] at P1
  have F1 : Fr [] w w1 := by rw [← hw1]; exact (Fr.refl [] w).alloc _
  obtain ⟨b1, hb1⟩ : ∃ x, w.heap.size = x := ⟨_, rfl⟩
  rw [hb1] at P1
  have l1 := P1.lt
  have wb : w.heap.size ≤ b1 := by omega
  have FT := fun s n o => from_t s n o w1
  have FF := fun s n o => from_f s n o w1
  replace P1 := Lib.hid P1; replace F1 := Lib.hid F1; replace FT := Lib.hid FT; replace FF := Lib.hid FF
  go_enter Try.func12, Try.ntmps12
  go_wp2_with fail
  refine (FT.out _ _ _).mono ?_
  rintro e w2 ⟨rfl, f2⟩
  have p2 := f2.pt P1.out (by simp)
  have c2 := p2.cell
  have z2 := p2.free
  have p3 := (p2.set 0 (.int .i64 6)).set 1 (.int .i64 3)
  have f3 : Fr [b1] w2 ((w2.setCell ⟨b1, 0, none⟩ (.int .i64 6)).setCell ⟨b1, 1, none⟩ (.int .i64 3)) := ((Fr.refl _ w2).setCell (by simp) _).setCell (by simp) _
  obtain ⟨w3, hw3⟩ : ∃ x, (w2.setCell ⟨b1, 0, none⟩ (.int .i64 6)).setCell ⟨b1, 1, none⟩ (.int .i64 3) = x := ⟨_, rfl⟩
  rw [hw3] at p3 f3
  simp only [List.set_cons_zero, List.set_cons_succ] at p3
  have k3 := p3.cell
  have F3 := (F1.out.trans f2).step f3 (fun q hq => .inr (by simp at hq; omega))
  clear hw1 hb1
  replace p2 := Lib.hid p2; replace p3 := Lib.hid p3; replace f2 := Lib.hid f2; replace f3 := Lib.hid f3; replace F3 := Lib.hid F3
  go_wp2_with fail
  refine bodyPost_ret (v := .agg #[.int .i64 6, .int .i64 3]) (by simp [results, Try.results12, go_sem, k3]) rfl ⟨rfl, F3.out⟩
theorem row_5_8 (w : World) : Calls Try.prog 12 #[.int .i64 5, .int .i64 8] w fun e w' => e = .returned (.agg #[.int .i64 6, .int .i64 3]) ∧ Fr [] w w' := by
  obtain ⟨w1, hw1⟩ : ∃ x, w.alloc (.cells #[.int .i64 0, .int .i64 0] RRow) = x := ⟨_, rfl⟩
  have P1 := Pt.newA w RRow #[.int .i64 0, .int .i64 0]
  rw [hw1] at P1
  have F1 : Fr [] w w1 := by rw [← hw1]; exact (Fr.refl [] w).alloc _
  obtain ⟨b1, hb1⟩ : ∃ x, w.heap.size = x := ⟨_, rfl⟩
  rw [hb1] at P1
  have l1 := P1.lt
  have wb : w.heap.size ≤ b1 := by omega
  have FT := fun s n o => from_t s n o w1
  have FF := fun s n o => from_f s n o w1
  replace P1 := Lib.hid P1; replace F1 := Lib.hid F1; replace FT := Lib.hid FT; replace FF := Lib.hid FF
  go_enter Try.func12, Try.ntmps12
  go_wp2_with fail
  refine (FT.out _ _ _).mono ?_
  rintro e w2 ⟨rfl, f2⟩
  have p2 := f2.pt P1.out (by simp)
  have c2 := p2.cell
  have z2 := p2.free
  have p3 := (p2.set 0 (.int .i64 6)).set 1 (.int .i64 3)
  have f3 : Fr [b1] w2 ((w2.setCell ⟨b1, 0, none⟩ (.int .i64 6)).setCell ⟨b1, 1, none⟩ (.int .i64 3)) := ((Fr.refl _ w2).setCell (by simp) _).setCell (by simp) _
  obtain ⟨w3, hw3⟩ : ∃ x, (w2.setCell ⟨b1, 0, none⟩ (.int .i64 6)).setCell ⟨b1, 1, none⟩ (.int .i64 3) = x := ⟨_, rfl⟩
  rw [hw3] at p3 f3
  simp only [List.set_cons_zero, List.set_cons_succ] at p3
  have k3 := p3.cell
  have F3 := (F1.out.trans f2).step f3 (fun q hq => .inr (by simp at hq; omega))
  clear hw1 hb1
  replace p2 := Lib.hid p2; replace p3 := Lib.hid p3; replace f2 := Lib.hid f2; replace f3 := Lib.hid f3; replace F3 := Lib.hid F3
  go_wp2_with fail
  refine bodyPost_ret (v := .agg #[.int .i64 6, .int .i64 3]) (by simp [results, Try.results12, go_sem, k3]) rfl ⟨rfl, F3.out⟩
theorem row_6_8 (w : World) : Calls Try.prog 12 #[.int .i64 6, .int .i64 8] w fun e w' => e = .returned (.agg #[.int .i64 6, .int .i64 0]) ∧ Fr [] w w' := by
  obtain ⟨w1, hw1⟩ : ∃ x, w.alloc (.cells #[.int .i64 0, .int .i64 0] RRow) = x := ⟨_, rfl⟩
  have P1 := Pt.newA w RRow #[.int .i64 0, .int .i64 0]
  rw [hw1] at P1
  have F1 : Fr [] w w1 := by rw [← hw1]; exact (Fr.refl [] w).alloc _
  obtain ⟨b1, hb1⟩ : ∃ x, w.heap.size = x := ⟨_, rfl⟩
  rw [hb1] at P1
  have l1 := P1.lt
  have wb : w.heap.size ≤ b1 := by omega
  have FT := fun s n o => from_t s n o w1
  have FF := fun s n o => from_f s n o w1
  replace P1 := Lib.hid P1; replace F1 := Lib.hid F1; replace FT := Lib.hid FT; replace FF := Lib.hid FF
  go_enter Try.func12, Try.ntmps12
  go_wp2_with fail
  refine (FF.out _ _ _).mono ?_
  rintro e w2 ⟨rfl, f2⟩
  have p2 := f2.pt P1.out (by simp)
  have c2 := p2.cell
  have z2 := p2.free
  have p3 := (p2.set 0 (.int .i64 6)).set 1 (.int .i64 0)
  have f3 : Fr [b1] w2 ((w2.setCell ⟨b1, 0, none⟩ (.int .i64 6)).setCell ⟨b1, 1, none⟩ (.int .i64 0)) := ((Fr.refl _ w2).setCell (by simp) _).setCell (by simp) _
  obtain ⟨w3, hw3⟩ : ∃ x, (w2.setCell ⟨b1, 0, none⟩ (.int .i64 6)).setCell ⟨b1, 1, none⟩ (.int .i64 0) = x := ⟨_, rfl⟩
  rw [hw3] at p3 f3
  simp only [List.set_cons_zero, List.set_cons_succ] at p3
  have k3 := p3.cell
  have F3 := (F1.out.trans f2).step f3 (fun q hq => .inr (by simp at hq; omega))
  clear hw1 hb1
  replace p2 := Lib.hid p2; replace p3 := Lib.hid p3; replace f2 := Lib.hid f2; replace f3 := Lib.hid f3; replace F3 := Lib.hid F3
  go_wp2_with fail
  refine bodyPost_ret (v := .agg #[.int .i64 6, .int .i64 0]) (by simp [results, Try.results12, go_sem, k3]) rfl ⟨rfl, F3.out⟩
theorem row_0_9 (w : World) : Calls Try.prog 12 #[.int .i64 0, .int .i64 9] w fun e w' => e = .returned (.agg #[.int .i64 0, .int .i64 0]) ∧ Fr [] w w' := by
  obtain ⟨w1, hw1⟩ : ∃ x, w.alloc (.cells #[.int .i64 0, .int .i64 0] RRow) = x := ⟨_, rfl⟩
  have P1 := Pt.newA w RRow #[.int .i64 0, .int .i64 0]
  rw [hw1] at P1
  have F1 : Fr [] w w1 := by rw [← hw1]; exact (Fr.refl [] w).alloc _
  obtain ⟨b1, hb1⟩ : ∃ x, w.heap.size = x := ⟨_, rfl⟩
  rw [hb1] at P1
  have l1 := P1.lt
  have wb : w.heap.size ≤ b1 := by omega
  have FT := fun s n o => from_t s n o w1
  have FF := fun s n o => from_f s n o w1
  replace P1 := Lib.hid P1; replace F1 := Lib.hid F1; replace FT := Lib.hid FT; replace FF := Lib.hid FF
  go_enter Try.func12, Try.ntmps12
  go_wp2_with fail
  refine (FF.out _ _ _).mono ?_
  rintro e w2 ⟨rfl, f2⟩
  have p2 := f2.pt P1.out (by simp)
  have c2 := p2.cell
  have z2 := p2.free
  have p3 := (p2.set 0 (.int .i64 0)).set 1 (.int .i64 0)
  have f3 : Fr [b1] w2 ((w2.setCell ⟨b1, 0, none⟩ (.int .i64 0)).setCell ⟨b1, 1, none⟩ (.int .i64 0)) := ((Fr.refl _ w2).setCell (by simp) _).setCell (by simp) _
  obtain ⟨w3, hw3⟩ : ∃ x, (w2.setCell ⟨b1, 0, none⟩ (.int .i64 0)).setCell ⟨b1, 1, none⟩ (.int .i64 0) = x := ⟨_, rfl⟩
  rw [hw3] at p3 f3
  simp only [List.set_cons_zero, List.set_cons_succ] at p3
  have k3 := p3.cell
  have F3 := (F1.out.trans f2).step f3 (fun q hq => .inr (by simp at hq; omega))
  clear hw1 hb1
  replace p2 := Lib.hid p2; replace p3 := Lib.hid p3; replace f2 := Lib.hid f2; replace f3 := Lib.hid f3; replace F3 := Lib.hid F3
  go_wp2_with fail
  refine bodyPost_ret (v := .agg #[.int .i64 0, .int .i64 0]) (by simp [results, Try.results12, go_sem, k3]) rfl ⟨rfl, F3.out⟩
theorem row_1_9 (w : World) : Calls Try.prog 12 #[.int .i64 1, .int .i64 9] w fun e w' => e = .returned (.agg #[.int .i64 3, .int .i64 2]) ∧ Fr [] w w' := by
  obtain ⟨w1, hw1⟩ : ∃ x, w.alloc (.cells #[.int .i64 3, .int .i64 2] RRow) = x := ⟨_, rfl⟩
  have P1 := Pt.newA w RRow #[.int .i64 3, .int .i64 2]
  rw [hw1] at P1
  have F1 : Fr [] w w1 := by rw [← hw1]; exact (Fr.refl [] w).alloc _
  have k1 := P1.cell
  have hw1' := Lib.hid hw1
  clear hw1
  replace P1 := Lib.hid P1; replace F1 := Lib.hid F1
  go_enter Try.func12, Try.ntmps12
  go_wp2_with fail
  rw [hw1'.out]
  refine bodyPost_ret (v := .agg #[.int .i64 3, .int .i64 2]) (by simp [results, Try.results12, go_sem, k1]) rfl ⟨rfl, F1.out⟩
theorem row_2_9 (w : World) : Calls Try.prog 12 #[.int .i64 2, .int .i64 9] w fun e w' => e = .returned (.agg #[.int .i64 6, .int .i64 3]) ∧ Fr [] w w' := by
  obtain ⟨w1, hw1⟩ : ∃ x, w.alloc (.cells #[.int .i64 0, .int .i64 0] RRow) = x := ⟨_, rfl⟩
  have P1 := Pt.newA w RRow #[.int .i64 0, .int .i64 0]
  rw [hw1] at P1
  have F1 : Fr [] w w1 := by rw [← hw1]; exact (Fr.refl [] w).alloc _
  obtain ⟨b1, hb1⟩ : ∃ x, w.heap.size = x := ⟨_, rfl⟩
  rw [hb1] at P1
  have l1 := P1.lt
  have wb : w.heap.size ≤ b1 := by omega
  have FT := fun s n o => from_t s n o w1
  have FF := fun s n o => from_f s n o w1
  replace P1 := Lib.hid P1; replace F1 := Lib.hid F1; replace FT := Lib.hid FT; replace FF := Lib.hid FF
  go_enter Try.func12, Try.ntmps12
  go_wp2_with fail
  refine (FT.out _ _ _).mono ?_
  rintro e w2 ⟨rfl, f2⟩
  have p2 := f2.pt P1.out (by simp)
  have c2 := p2.cell
  have z2 := p2.free
  have p3 := (p2.set 0 (.int .i64 6)).set 1 (.int .i64 3)
  have f3 : Fr [b1] w2 ((w2.setCell ⟨b1, 0, none⟩ (.int .i64 6)).setCell ⟨b1, 1, none⟩ (.int .i64 3)) := ((Fr.refl _ w2).setCell (by simp) _).setCell (by simp) _
  obtain ⟨w3, hw3⟩ : ∃ x, (w2.setCell ⟨b1, 0, none⟩ (.int .i64 6)).setCell ⟨b1, 1, none⟩ (.int .i64 3) = x := ⟨_, rfl⟩
  rw [hw3] at p3 f3
  simp only [List.set_cons_zero, List.set_cons_succ] at p3
  have k3 := p3.cell
  have F3 := (F1.out.trans f2).step f3 (fun q hq => .inr (by simp at hq; omega))
  clear hw1 hb1
  replace p2 := Lib.hid p2; replace p3 := Lib.hid p3; replace f2 := Lib.hid f2; replace f3 := Lib.hid f3; replace F3 := Lib.hid F3
  go_wp2_with fail
  refine bodyPost_ret (v := .agg #[.int .i64 6, .int .i64 3]) (by simp [results, Try.results12, go_sem, k3]) rfl ⟨rfl, F3.out⟩
theorem row_3_9 (w : World) : Calls Try.prog 12 #[.int .i64 3, .int .i64 9] w fun e w' => e = .returned (.agg #[.int .i64 6, .int .i64 3]) ∧ Fr [] w w' := by
  obtain ⟨w1, hw1⟩ : ∃ x, w.alloc (.cells #[.int .i64 0, .int .i64 0] RRow) = x := ⟨_, rfl⟩
  have P1 := Pt.newA w RRow #[.int .i64 0, .int .i64 0]
  rw [hw1] at P1
  have F1 : Fr [] w w1 := by rw [← hw1]; exact (Fr.refl [] w).alloc _
  obtain ⟨b1, hb1⟩ : ∃ x, w.heap.size = x := ⟨_, rfl⟩
  rw [hb1] at P1
  have l1 := P1.lt
  have wb : w.heap.size ≤ b1 := by omega
  have FT := fun s n o => from_t s n o w1
  have FF := fun s n o => from_f s n o w1
  replace P1 := Lib.hid P1; replace F1 := Lib.hid F1; replace FT := Lib.hid FT; replace FF := Lib.hid FF
  go_enter Try.func12, Try.ntmps12
  go_wp2_with fail
  refine (FT.out _ _ _).mono ?_
  rintro e w2 ⟨rfl, f2⟩
  have p2 := f2.pt P1.out (by simp)
  have c2 := p2.cell
  have z2 := p2.free
  have p3 := (p2.set 0 (.int .i64 6)).set 1 (.int .i64 3)
  have f3 : Fr [b1] w2 ((w2.setCell ⟨b1, 0, none⟩ (.int .i64 6)).setCell ⟨b1, 1, none⟩ (.int .i64 3)) := ((Fr.refl _ w2).setCell (by simp) _).setCell (by simp) _
  obtain ⟨w3, hw3⟩ : ∃ x, (w2.setCell ⟨b1, 0, none⟩ (.int .i64 6)).setCell ⟨b1, 1, none⟩ (.int .i64 3) = x := ⟨_, rfl⟩
  rw [hw3] at p3 f3
  simp only [List.set_cons_zero, List.set_cons_succ] at p3
  have k3 := p3.cell
  have F3 := (F1.out.trans f2).step f3 (fun q hq => .inr (by simp at hq; omega))
  clear hw1 hb1
  replace p2 := Lib.hid p2; replace p3 := Lib.hid p3; replace f2 := Lib.hid f2; replace f3 := Lib.hid f3; replace F3 := Lib.hid F3
  go_wp2_with fail
  refine bodyPost_ret (v := .agg #[.int .i64 6, .int .i64 3]) (by simp [results, Try.results12, go_sem, k3]) rfl ⟨rfl, F3.out⟩
theorem row_4_9 (w : World) : Calls Try.prog 12 #[.int .i64 4, .int .i64 9] w fun e w' => e = .returned (.agg #[.int .i64 6, .int .i64 3]) ∧ Fr [] w w' := by
  obtain ⟨w1, hw1⟩ : ∃ x, w.alloc (.cells #[.int .i64 0, .int .i64 0] RRow) = x := ⟨_, rfl⟩
  have P1 := Pt.newA w RRow #[.int .i64 0, .int .i64 0]
  rw [hw1] at P1
  have F1 : Fr [] w w1 := by rw [← hw1]; exact (Fr.refl [] w).alloc _
  obtain ⟨b1, hb1⟩ : ∃ x, w.heap.size = x := ⟨_, rfl⟩
  rw [hb1] at P1
  have l1 := P1.lt
  have wb : w.heap.size ≤ b1 := by omega
  have FT := fun s n o => from_t s n o w1
  have FF := fun s n o => from_f s n o w1
  replace P1 := Lib.hid P1; replace F1 := Lib.hid F1; replace FT := Lib.hid FT; replace FF := Lib.hid FF
  go_enter Try.func12, Try.ntmps12
  go_wp2_with fail
  refine (FT.out _ _ _).mono ?_
  rintro e w2 ⟨rfl, f2⟩
  have p2 := f2.pt P1.out (by simp)
  have c2 := p2.cell
  have z2 := p2.free
  have p3 := (p2.set 0 (.int .i64 6)).set 1 (.int .i64 3)
  have f3 : Fr [b1] w2 ((w2.setCell ⟨b1, 0, none⟩ (.int .i64 6)).setCell ⟨b1, 1, none⟩ (.int .i64 3)) := ((Fr.refl _ w2).setCell (by simp) _).setCell (by simp) _
  obtain ⟨w3, hw3⟩ : ∃ x, (w2.setCell ⟨b1, 0, none⟩ (.int .i64 6)).setCell ⟨b1, 1, none⟩ (.int .i64 3) = x := ⟨_, rfl⟩
  rw [hw3] at p3 f3
  simp only [List.set_cons_zero, List.set_cons_succ] at p3
  have k3 := p3.cell
  have F3 := (F1.out.trans f2).step f3 (fun q hq => .inr (by simp at hq; omega))
  clear hw1 hb1
  replace p2 := Lib.hid p2; replace p3 := Lib.hid p3; replace f2 := Lib.hid f2; replace f3 := Lib.hid f3; replace F3 := Lib.hid F3
  go_wp2_with fail
  refine bodyPost_ret (v := .agg #[.int .i64 6, .int .i64 3]) (by simp [results, Try.results12, go_sem, k3]) rfl ⟨rfl, F3.out⟩
theorem row_5_9 (w : World) : Calls Try.prog 12 #[.int .i64 5, .int .i64 9] w fun e w' => e = .returned (.agg #[.int .i64 6, .int .i64 3]) ∧ Fr [] w w' := by
  obtain ⟨w1, hw1⟩ : ∃ x, w.alloc (.cells #[.int .i64 0, .int .i64 0] RRow) = x := ⟨_, rfl⟩
  have P1 := Pt.newA w RRow #[.int .i64 0, .int .i64 0]
  rw [hw1] at P1
  have F1 : Fr [] w w1 := by rw [← hw1]; exact (Fr.refl [] w).alloc _
  obtain ⟨b1, hb1⟩ : ∃ x, w.heap.size = x := ⟨_, rfl⟩
  rw [hb1] at P1
  have l1 := P1.lt
  have wb : w.heap.size ≤ b1 := by omega
  have FT := fun s n o => from_t s n o w1
  have FF := fun s n o => from_f s n o w1
  replace P1 := Lib.hid P1; replace F1 := Lib.hid F1; replace FT := Lib.hid FT; replace FF := Lib.hid FF
  go_enter Try.func12, Try.ntmps12
  go_wp2_with fail
  refine (FT.out _ _ _).mono ?_
  rintro e w2 ⟨rfl, f2⟩
  have p2 := f2.pt P1.out (by simp)
  have c2 := p2.cell
  have z2 := p2.free
  have p3 := (p2.set 0 (.int .i64 6)).set 1 (.int .i64 3)
  have f3 : Fr [b1] w2 ((w2.setCell ⟨b1, 0, none⟩ (.int .i64 6)).setCell ⟨b1, 1, none⟩ (.int .i64 3)) := ((Fr.refl _ w2).setCell (by simp) _).setCell (by simp) _
  obtain ⟨w3, hw3⟩ : ∃ x, (w2.setCell ⟨b1, 0, none⟩ (.int .i64 6)).setCell ⟨b1, 1, none⟩ (.int .i64 3) = x := ⟨_, rfl⟩
  rw [hw3] at p3 f3
  simp only [List.set_cons_zero, List.set_cons_succ] at p3
  have k3 := p3.cell
  have F3 := (F1.out.trans f2).step f3 (fun q hq => .inr (by simp at hq; omega))
  clear hw1 hb1
  replace p2 := Lib.hid p2; replace p3 := Lib.hid p3; replace f2 := Lib.hid f2; replace f3 := Lib.hid f3; replace F3 := Lib.hid F3
  go_wp2_with fail
  refine bodyPost_ret (v := .agg #[.int .i64 6, .int .i64 3]) (by simp [results, Try.results12, go_sem, k3]) rfl ⟨rfl, F3.out⟩
theorem row_6_9 (w : World) : Calls Try.prog 12 #[.int .i64 6, .int .i64 9] w fun e w' => e = .returned (.agg #[.int .i64 6, .int .i64 0]) ∧ Fr [] w w' := by
  obtain ⟨w1, hw1⟩ : ∃ x, w.alloc (.cells #[.int .i64 0, .int .i64 0] RRow) = x := ⟨_, rfl⟩
  have P1 := Pt.newA w RRow #[.int .i64 0, .int .i64 0]
  rw [hw1] at P1
  have F1 : Fr [] w w1 := by rw [← hw1]; exact (Fr.refl [] w).alloc _
  obtain ⟨b1, hb1⟩ : ∃ x, w.heap.size = x := ⟨_, rfl⟩
  rw [hb1] at P1
  have l1 := P1.lt
  have wb : w.heap.size ≤ b1 := by omega
  have FT := fun s n o => from_t s n o w1
  have FF := fun s n o => from_f s n o w1
  replace P1 := Lib.hid P1; replace F1 := Lib.hid F1; replace FT := Lib.hid FT; replace FF := Lib.hid FF
  go_enter Try.func12, Try.ntmps12
  go_wp2_with fail
  refine (FF.out _ _ _).mono ?_
  rintro e w2 ⟨rfl, f2⟩
  have p2 := f2.pt P1.out (by simp)
  have c2 := p2.cell
  have z2 := p2.free
  have p3 := (p2.set 0 (.int .i64 6)).set 1 (.int .i64 0)
  have f3 : Fr [b1] w2 ((w2.setCell ⟨b1, 0, none⟩ (.int .i64 6)).setCell ⟨b1, 1, none⟩ (.int .i64 0)) := ((Fr.refl _ w2).setCell (by simp) _).setCell (by simp) _
  obtain ⟨w3, hw3⟩ : ∃ x, (w2.setCell ⟨b1, 0, none⟩ (.int .i64 6)).setCell ⟨b1, 1, none⟩ (.int .i64 0) = x := ⟨_, rfl⟩
  rw [hw3] at p3 f3
  simp only [List.set_cons_zero, List.set_cons_succ] at p3
  have k3 := p3.cell
  have F3 := (F1.out.trans f2).step f3 (fun q hq => .inr (by simp at hq; omega))
  clear hw1 hb1
  replace p2 := Lib.hid p2; replace p3 := Lib.hid p3; replace f2 := Lib.hid f2; replace f3 := Lib.hid f3; replace F3 := Lib.hid F3
  go_wp2_with fail
  refine bodyPost_ret (v := .agg #[.int .i64 6, .int .i64 0]) (by simp [results, Try.results12, go_sem, k3]) rfl ⟨rfl, F3.out⟩
theorem row_0_10 (w : World) : Calls Try.prog 12 #[.int .i64 0, .int .i64 10] w fun e w' => e = .returned (.agg #[.int .i64 0, .int .i64 0]) ∧ Fr [] w w' := by
  obtain ⟨w1, hw1⟩ : ∃ x, w.alloc (.cells #[.int .i64 0, .int .i64 0] RRow) = x := ⟨_, rfl⟩
  have P1 := Pt.newA w RRow #[.int .i64 0, .int .i64 0]
  rw [hw1] at P1
  have F1 : Fr [] w w1 := by rw [← hw1]; exact (Fr.refl [] w).alloc _
  obtain ⟨b1, hb1⟩ : ∃ x, w.heap.size = x := ⟨_, rfl⟩
  rw [hb1] at P1
  have l1 := P1.lt
  have wb : w.heap.size ≤ b1 := by omega
  have FT := fun s n o => from_t s n o w1
  have FF := fun s n o => from_f s n o w1
  replace P1 := Lib.hid P1; replace F1 := Lib.hid F1; replace FT := Lib.hid FT; replace FF := Lib.hid FF
  go_enter Try.func12, Try.ntmps12
  go_wp2_with fail
  refine (FF.out _ _ _).mono ?_
  rintro e w2 ⟨rfl, f2⟩
  have p2 := f2.pt P1.out (by simp)
  have c2 := p2.cell
  have z2 := p2.free
  have p3 := (p2.set 0 (.int .i64 0)).set 1 (.int .i64 0)
  have f3 : Fr [b1] w2 ((w2.setCell ⟨b1, 0, none⟩ (.int .i64 0)).setCell ⟨b1, 1, none⟩ (.int .i64 0)) := ((Fr.refl _ w2).setCell (by simp) _).setCell (by simp) _
  obtain ⟨w3, hw3⟩ : ∃ x, (w2.setCell ⟨b1, 0, none⟩ (.int .i64 0)).setCell ⟨b1, 1, none⟩ (.int .i64 0) = x := ⟨_, rfl⟩
  rw [hw3] at p3 f3
  simp only [List.set_cons_zero, List.set_cons_succ] at p3
  have k3 := p3.cell
  have F3 := (F1.out.trans f2).step f3 (fun q hq => .inr (by simp at hq; omega))
  clear hw1 hb1
  replace p2 := Lib.hid p2; replace p3 := Lib.hid p3; replace f2 := Lib.hid f2; replace f3 := Lib.hid f3; replace F3 := Lib.hid F3
  go_wp2_with fail
  refine bodyPost_ret (v := .agg #[.int .i64 0, .int .i64 0]) (by simp [results, Try.results12, go_sem, k3]) rfl ⟨rfl, F3.out⟩
theorem row_1_10 (w : World) : Calls Try.prog 12 #[.int .i64 1, .int .i64 10] w fun e w' => e = .returned (.agg #[.int .i64 6, .int .i64 3]) ∧ Fr [] w w' := by
  obtain ⟨w1, hw1⟩ : ∃ x, w.alloc (.cells #[.int .i64 0, .int .i64 0] RRow) = x := ⟨_, rfl⟩
  have P1 := Pt.newA w RRow #[.int .i64 0, .int .i64 0]
  rw [hw1] at P1
  have F1 : Fr [] w w1 := by rw [← hw1]; exact (Fr.refl [] w).alloc _
  obtain ⟨b1, hb1⟩ : ∃ x, w.heap.size = x := ⟨_, rfl⟩
  rw [hb1] at P1
  have l1 := P1.lt
  have wb : w.heap.size ≤ b1 := by omega
  have FT := fun s n o => from_t s n o w1
  have FF := fun s n o => from_f s n o w1
  replace P1 := Lib.hid P1; replace F1 := Lib.hid F1; replace FT := Lib.hid FT; replace FF := Lib.hid FF
  go_enter Try.func12, Try.ntmps12
  go_wp2_with fail
  refine (FT.out _ _ _).mono ?_
  rintro e w2 ⟨rfl, f2⟩
  have p2 := f2.pt P1.out (by simp)
  have c2 := p2.cell
  have z2 := p2.free
  have p3 := (p2.set 0 (.int .i64 6)).set 1 (.int .i64 3)
  have f3 : Fr [b1] w2 ((w2.setCell ⟨b1, 0, none⟩ (.int .i64 6)).setCell ⟨b1, 1, none⟩ (.int .i64 3)) := ((Fr.refl _ w2).setCell (by simp) _).setCell (by simp) _
  obtain ⟨w3, hw3⟩ : ∃ x, (w2.setCell ⟨b1, 0, none⟩ (.int .i64 6)).setCell ⟨b1, 1, none⟩ (.int .i64 3) = x := ⟨_, rfl⟩
  rw [hw3] at p3 f3
  simp only [List.set_cons_zero, List.set_cons_succ] at p3
  have k3 := p3.cell
  have F3 := (F1.out.trans f2).step f3 (fun q hq => .inr (by simp at hq; omega))
  clear hw1 hb1
  replace p2 := Lib.hid p2; replace p3 := Lib.hid p3; replace f2 := Lib.hid f2; replace f3 := Lib.hid f3; replace F3 := Lib.hid F3
  go_wp2_with fail
  refine bodyPost_ret (v := .agg #[.int .i64 6, .int .i64 3]) (by simp [results, Try.results12, go_sem, k3]) rfl ⟨rfl, F3.out⟩
theorem row_2_10 (w : World) : Calls Try.prog 12 #[.int .i64 2, .int .i64 10] w fun e w' => e = .returned (.agg #[.int .i64 6, .int .i64 3]) ∧ Fr [] w w' := by
  obtain ⟨w1, hw1⟩ : ∃ x, w.alloc (.cells #[.int .i64 0, .int .i64 0] RRow) = x := ⟨_, rfl⟩
  have P1 := Pt.newA w RRow #[.int .i64 0, .int .i64 0]
  rw [hw1] at P1
  have F1 : Fr [] w w1 := by rw [← hw1]; exact (Fr.refl [] w).alloc _
  obtain ⟨b1, hb1⟩ : ∃ x, w.heap.size = x := ⟨_, rfl⟩
  rw [hb1] at P1
  have l1 := P1.lt
  have wb : w.heap.size ≤ b1 := by omega
  have FT := fun s n o => from_t s n o w1
  have FF := fun s n o => from_f s n o w1
  replace P1 := Lib.hid P1; replace F1 := Lib.hid F1; replace FT := Lib.hid FT; replace FF := Lib.hid FF
  go_enter Try.func12, Try.ntmps12
  go_wp2_with fail
  refine (FT.out _ _ _).mono ?_
  rintro e w2 ⟨rfl, f2⟩
  have p2 := f2.pt P1.out (by simp)
  have c2 := p2.cell
  have z2 := p2.free
  have p3 := (p2.set 0 (.int .i64 6)).set 1 (.int .i64 3)
  have f3 : Fr [b1] w2 ((w2.setCell ⟨b1, 0, none⟩ (.int .i64 6)).setCell ⟨b1, 1, none⟩ (.int .i64 3)) := ((Fr.refl _ w2).setCell (by simp) _).setCell (by simp) _
  obtain ⟨w3, hw3⟩ : ∃ x, (w2.setCell ⟨b1, 0, none⟩ (.int .i64 6)).setCell ⟨b1, 1, none⟩ (.int .i64 3) = x := ⟨_, rfl⟩
  rw [hw3] at p3 f3
  simp only [List.set_cons_zero, List.set_cons_succ] at p3
  have k3 := p3.cell
  have F3 := (F1.out.trans f2).step f3 (fun q hq => .inr (by simp at hq; omega))
  clear hw1 hb1
  replace p2 := Lib.hid p2; replace p3 := Lib.hid p3; replace f2 := Lib.hid f2; replace f3 := Lib.hid f3; replace F3 := Lib.hid F3
  go_wp2_with fail
  refine bodyPost_ret (v := .agg #[.int .i64 6, .int .i64 3]) (by simp [results, Try.results12, go_sem, k3]) rfl ⟨rfl, F3.out⟩
theorem row_3_10 (w : World) : Calls Try.prog 12 #[.int .i64 3, .int .i64 10] w fun e w' => e = .returned (.agg #[.int .i64 5, .int .i64 2]) ∧ Fr [] w w' := by
  obtain ⟨w1, hw1⟩ : ∃ x, w.alloc (.cells #[.int .i64 5, .int .i64 2] RRow) = x := ⟨_, rfl⟩
  have P1 := Pt.newA w RRow #[.int .i64 5, .int .i64 2]
  rw [hw1] at P1
  have F1 : Fr [] w w1 := by rw [← hw1]; exact (Fr.refl [] w).alloc _
  have k1 := P1.cell
  have hw1' := Lib.hid hw1
  clear hw1
  replace P1 := Lib.hid P1; replace F1 := Lib.hid F1
  go_enter Try.func12, Try.ntmps12
  go_wp2_with fail
  rw [hw1'.out]
  refine bodyPost_ret (v := .agg #[.int .i64 5, .int .i64 2]) (by simp [results, Try.results12, go_sem, k1]) rfl ⟨rfl, F1.out⟩
theorem row_4_10 (w : World) : Calls Try.prog 12 #[.int .i64 4, .int .i64 10] w fun e w' => e = .returned (.agg #[.int .i64 5, .int .i64 2]) ∧ Fr [] w w' := by
  obtain ⟨w1, hw1⟩ : ∃ x, w.alloc (.cells #[.int .i64 5, .int .i64 2] RRow) = x := ⟨_, rfl⟩
  have P1 := Pt.newA w RRow #[.int .i64 5, .int .i64 2]
  rw [hw1] at P1
  have F1 : Fr [] w w1 := by rw [← hw1]; exact (Fr.refl [] w).alloc _
  have k1 := P1.cell
  have hw1' := Lib.hid hw1
  clear hw1
  replace P1 := Lib.hid P1; replace F1 := Lib.hid F1
  go_enter Try.func12, Try.ntmps12
  go_wp2_with fail
  rw [hw1'.out]
  refine bodyPost_ret (v := .agg #[.int .i64 5, .int .i64 2]) (by simp [results, Try.results12, go_sem, k1]) rfl ⟨rfl, F1.out⟩
theorem row_5_10 (w : World) : Calls Try.prog 12 #[.int .i64 5, .int .i64 10] w fun e w' => e = .returned (.agg #[.int .i64 6, .int .i64 3]) ∧ Fr [] w w' := by
  obtain ⟨w1, hw1⟩ : ∃ x, w.alloc (.cells #[.int .i64 0, .int .i64 0] RRow) = x := ⟨_, rfl⟩
  have P1 := Pt.newA w RRow #[.int .i64 0, .int .i64 0]
  rw [hw1] at P1
  have F1 : Fr [] w w1 := by rw [← hw1]; exact (Fr.refl [] w).alloc _
  obtain ⟨b1, hb1⟩ : ∃ x, w.heap.size = x := ⟨_, rfl⟩
  rw [hb1] at P1
  have l1 := P1.lt
  have wb : w.heap.size ≤ b1 := by omega
  have FT := fun s n o => from_t s n o w1
  have FF := fun s n o => from_f s n o w1
  replace P1 := Lib.hid P1; replace F1 := Lib.hid F1; replace FT := Lib.hid FT; replace FF := Lib.hid FF
  go_enter Try.func12, Try.ntmps12
  go_wp2_with fail
  refine (FT.out _ _ _).mono ?_
  rintro e w2 ⟨rfl, f2⟩
  have p2 := f2.pt P1.out (by simp)
  have c2 := p2.cell
  have z2 := p2.free
  have p3 := (p2.set 0 (.int .i64 6)).set 1 (.int .i64 3)
  have f3 : Fr [b1] w2 ((w2.setCell ⟨b1, 0, none⟩ (.int .i64 6)).setCell ⟨b1, 1, none⟩ (.int .i64 3)) := ((Fr.refl _ w2).setCell (by simp) _).setCell (by simp) _
  obtain ⟨w3, hw3⟩ : ∃ x, (w2.setCell ⟨b1, 0, none⟩ (.int .i64 6)).setCell ⟨b1, 1, none⟩ (.int .i64 3) = x := ⟨_, rfl⟩
  rw [hw3] at p3 f3
  simp only [List.set_cons_zero, List.set_cons_succ] at p3
  have k3 := p3.cell
  have F3 := (F1.out.trans f2).step f3 (fun q hq => .inr (by simp at hq; omega))
  clear hw1 hb1
  replace p2 := Lib.hid p2; replace p3 := Lib.hid p3; replace f2 := Lib.hid f2; replace f3 := Lib.hid f3; replace F3 := Lib.hid F3
  go_wp2_with fail
  refine bodyPost_ret (v := .agg #[.int .i64 6, .int .i64 3]) (by simp [results, Try.results12, go_sem, k3]) rfl ⟨rfl, F3.out⟩
theorem row_6_10 (w : World) : Calls Try.prog 12 #[.int .i64 6, .int .i64 10] w fun e w' => e = .returned (.agg #[.int .i64 6, .int .i64 0]) ∧ Fr [] w w' := by
  obtain ⟨w1, hw1⟩ : ∃ x, w.alloc (.cells #[.int .i64 0, .int .i64 0] RRow) = x := ⟨_, rfl⟩
  have P1 := Pt.newA w RRow #[.int .i64 0, .int .i64 0]
  rw [hw1] at P1
  have F1 : Fr [] w w1 := by rw [← hw1]; exact (Fr.refl [] w).alloc _
  obtain ⟨b1, hb1⟩ : ∃ x, w.heap.size = x := ⟨_, rfl⟩
  rw [hb1] at P1
  have l1 := P1.lt
  have wb : w.heap.size ≤ b1 := by omega
  have FT := fun s n o => from_t s n o w1
  have FF := fun s n o => from_f s n o w1
  replace P1 := Lib.hid P1; replace F1 := Lib.hid F1; replace FT := Lib.hid FT; replace FF := Lib.hid FF
  go_enter Try.func12, Try.ntmps12
  go_wp2_with fail
  refine (FF.out _ _ _).mono ?_
  rintro e w2 ⟨rfl, f2⟩
  have p2 := f2.pt P1.out (by simp)
  have c2 := p2.cell
  have z2 := p2.free
  have p3 := (p2.set 0 (.int .i64 6)).set 1 (.int .i64 0)
  have f3 : Fr [b1] w2 ((w2.setCell ⟨b1, 0, none⟩ (.int .i64 6)).setCell ⟨b1, 1, none⟩ (.int .i64 0)) := ((Fr.refl _ w2).setCell (by simp) _).setCell (by simp) _
  obtain ⟨w3, hw3⟩ : ∃ x, (w2.setCell ⟨b1, 0, none⟩ (.int .i64 6)).setCell ⟨b1, 1, none⟩ (.int .i64 0) = x := ⟨_, rfl⟩
  rw [hw3] at p3 f3
  simp only [List.set_cons_zero, List.set_cons_succ] at p3
  have k3 := p3.cell
  have F3 := (F1.out.trans f2).step f3 (fun q hq => .inr (by simp at hq; omega))
  clear hw1 hb1
  replace p2 := Lib.hid p2; replace p3 := Lib.hid p3; replace f2 := Lib.hid f2; replace f3 := Lib.hid f3; replace F3 := Lib.hid F3
  go_wp2_with fail
  refine bodyPost_ret (v := .agg #[.int .i64 6, .int .i64 0]) (by simp [results, Try.results12, go_sem, k3]) rfl ⟨rfl, F3.out⟩
theorem row_0_11 (w : World) : Calls Try.prog 12 #[.int .i64 0, .int .i64 11] w fun e w' => e = .returned (.agg #[.int .i64 0, .int .i64 0]) ∧ Fr [] w w' := by
  obtain ⟨w1, hw1⟩ : ∃ x, w.alloc (.cells #[.int .i64 0, .int .i64 0] RRow) = x := ⟨_, rfl⟩
  have P1 := Pt.newA w RRow #[.int .i64 0, .int .i64 0]
  rw [hw1] at P1
  have F1 : Fr [] w w1 := by rw [← hw1]; exact (Fr.refl [] w).alloc _
  obtain ⟨b1, hb1⟩ : ∃ x, w.heap.size = x := ⟨_, rfl⟩
  rw [hb1] at P1
  have l1 := P1.lt
  have wb : w.heap.size ≤ b1 := by omega
  have FT := fun s n o => from_t s n o w1
  have FF := fun s n o => from_f s n o w1
  replace P1 := Lib.hid P1; replace F1 := Lib.hid F1; replace FT := Lib.hid FT; replace FF := Lib.hid FF
  go_enter Try.func12, Try.ntmps12
  go_wp2_with fail
  refine (FF.out _ _ _).mono ?_
  rintro e w2 ⟨rfl, f2⟩
  have p2 := f2.pt P1.out (by simp)
  have c2 := p2.cell
  have z2 := p2.free
  have p3 := (p2.set 0 (.int .i64 0)).set 1 (.int .i64 0)
  have f3 : Fr [b1] w2 ((w2.setCell ⟨b1, 0, none⟩ (.int .i64 0)).setCell ⟨b1, 1, none⟩ (.int .i64 0)) := ((Fr.refl _ w2).setCell (by simp) _).setCell (by simp) _
  obtain ⟨w3, hw3⟩ : ∃ x, (w2.setCell ⟨b1, 0, none⟩ (.int .i64 0)).setCell ⟨b1, 1, none⟩ (.int .i64 0) = x := ⟨_, rfl⟩
  rw [hw3] at p3 f3
  simp only [List.set_cons_zero, List.set_cons_succ] at p3
  have k3 := p3.cell
  have F3 := (F1.out.trans f2).step f3 (fun q hq => .inr (by simp at hq; omega))
  clear hw1 hb1
  replace p2 := Lib.hid p2; replace p3 := Lib.hid p3; replace f2 := Lib.hid f2; replace f3 := Lib.hid f3; replace F3 := Lib.hid F3
  go_wp2_with fail
  refine bodyPost_ret (v := .agg #[.int .i64 0, .int .i64 0]) (by simp [results, Try.results12, go_sem, k3]) rfl ⟨rfl, F3.out⟩
theorem row_1_11 (w : World) : Calls Try.prog 12 #[.int .i64 1, .int .i64 11] w fun e w' => e = .returned (.agg #[.int .i64 6, .int .i64 2]) ∧ Fr [] w w' := by
  obtain ⟨w1, hw1⟩ : ∃ x, w.alloc (.cells #[.int .i64 0, .int .i64 0] RRow) = x := ⟨_, rfl⟩
  have P1 := Pt.newA w RRow #[.int .i64 0, .int .i64 0]
  rw [hw1] at P1
  have F1 : Fr [] w w1 := by rw [← hw1]; exact (Fr.refl [] w).alloc _
  obtain ⟨b1, hb1⟩ : ∃ x, w.heap.size = x := ⟨_, rfl⟩
  rw [hb1] at P1
  have l1 := P1.lt
  have wb : w.heap.size ≤ b1 := by omega
  have FT := fun s n o => from_t s n o w1
  have FF := fun s n o => from_f s n o w1
  replace P1 := Lib.hid P1; replace F1 := Lib.hid F1; replace FT := Lib.hid FT; replace FF := Lib.hid FF
  go_enter Try.func12, Try.ntmps12
  go_wp2_with fail
  refine (FT.out _ _ _).mono ?_
  rintro e w2 ⟨rfl, f2⟩
  have p2 := f2.pt P1.out (by simp)
  have c2 := p2.cell
  have z2 := p2.free
  have p3 := (p2.set 0 (.int .i64 6)).set 1 (.int .i64 2)
  have f3 : Fr [b1] w2 ((w2.setCell ⟨b1, 0, none⟩ (.int .i64 6)).setCell ⟨b1, 1, none⟩ (.int .i64 2)) := ((Fr.refl _ w2).setCell (by simp) _).setCell (by simp) _
  obtain ⟨w3, hw3⟩ : ∃ x, (w2.setCell ⟨b1, 0, none⟩ (.int .i64 6)).setCell ⟨b1, 1, none⟩ (.int .i64 2) = x := ⟨_, rfl⟩
  rw [hw3] at p3 f3
  simp only [List.set_cons_zero, List.set_cons_succ] at p3
  have k3 := p3.cell
  have F3 := (F1.out.trans f2).step f3 (fun q hq => .inr (by simp at hq; omega))
  clear hw1 hb1
  replace p2 := Lib.hid p2; replace p3 := Lib.hid p3; replace f2 := Lib.hid f2; replace f3 := Lib.hid f3; replace F3 := Lib.hid F3
  go_wp2_with fail
  refine bodyPost_ret (v := .agg #[.int .i64 6, .int .i64 2]) (by simp [results, Try.results12, go_sem, k3]) rfl ⟨rfl, F3.out⟩
theorem row_2_11 (w : World) : Calls Try.prog 12 #[.int .i64 2, .int .i64 11] w fun e w' => e = .returned (.agg #[.int .i64 6, .int .i64 2]) ∧ Fr [] w w' := by
  obtain ⟨w1, hw1⟩ : ∃ x, w.alloc (.cells #[.int .i64 0, .int .i64 0] RRow) = x := ⟨_, rfl⟩
  have P1 := Pt.newA w RRow #[.int .i64 0, .int .i64 0]
  rw [hw1] at P1
  have F1 : Fr [] w w1 := by rw [← hw1]; exact (Fr.refl [] w).alloc _
  obtain ⟨b1, hb1⟩ : ∃ x, w.heap.size = x := ⟨_, rfl⟩
  rw [hb1] at P1
  have l1 := P1.lt
  have wb : w.heap.size ≤ b1 := by omega
  have FT := fun s n o => from_t s n o w1
  have FF := fun s n o => from_f s n o w1
  replace P1 := Lib.hid P1; replace F1 := Lib.hid F1; replace FT := Lib.hid FT; replace FF := Lib.hid FF
  go_enter Try.func12, Try.ntmps12
  go_wp2_with fail
  refine (FT.out _ _ _).mono ?_
  rintro e w2 ⟨rfl, f2⟩
  have p2 := f2.pt P1.out (by simp)
  have c2 := p2.cell
  have z2 := p2.free
  have p3 := (p2.set 0 (.int .i64 6)).set 1 (.int .i64 2)
  have f3 : Fr [b1] w2 ((w2.setCell ⟨b1, 0, none⟩ (.int .i64 6)).setCell ⟨b1, 1, none⟩ (.int .i64 2)) := ((Fr.refl _ w2).setCell (by simp) _).setCell (by simp) _
  obtain ⟨w3, hw3⟩ : ∃ x, (w2.setCell ⟨b1, 0, none⟩ (.int .i64 6)).setCell ⟨b1, 1, none⟩ (.int .i64 2) = x := ⟨_, rfl⟩
  rw [hw3] at p3 f3
  simp only [List.set_cons_zero, List.set_cons_succ] at p3
  have k3 := p3.cell
  have F3 := (F1.out.trans f2).step f3 (fun q hq => .inr (by simp at hq; omega))
  clear hw1 hb1
  replace p2 := Lib.hid p2; replace p3 := Lib.hid p3; replace f2 := Lib.hid f2; replace f3 := Lib.hid f3; replace F3 := Lib.hid F3
  go_wp2_with fail
  refine bodyPost_ret (v := .agg #[.int .i64 6, .int .i64 2]) (by simp [results, Try.results12, go_sem, k3]) rfl ⟨rfl, F3.out⟩
theorem row_3_11 (w : World) : Calls Try.prog 12 #[.int .i64 3, .int .i64 11] w fun e w' => e = .returned (.agg #[.int .i64 6, .int .i64 2]) ∧ Fr [] w w' := by
  obtain ⟨w1, hw1⟩ : ∃ x, w.alloc (.cells #[.int .i64 0, .int .i64 0] RRow) = x := ⟨_, rfl⟩
  have P1 := Pt.newA w RRow #[.int .i64 0, .int .i64 0]
  rw [hw1] at P1
  have F1 : Fr [] w w1 := by rw [← hw1]; exact (Fr.refl [] w).alloc _
  obtain ⟨b1, hb1⟩ : ∃ x, w.heap.size = x := ⟨_, rfl⟩
  rw [hb1] at P1
  have l1 := P1.lt
  have wb : w.heap.size ≤ b1 := by omega
  have FT := fun s n o => from_t s n o w1
  have FF := fun s n o => from_f s n o w1
  replace P1 := Lib.hid P1; replace F1 := Lib.hid F1; replace FT := Lib.hid FT; replace FF := Lib.hid FF
  go_enter Try.func12, Try.ntmps12
  go_wp2_with fail
  refine (FT.out _ _ _).mono ?_
  rintro e w2 ⟨rfl, f2⟩
  have p2 := f2.pt P1.out (by simp)
  have c2 := p2.cell
  have z2 := p2.free
  have p3 := (p2.set 0 (.int .i64 6)).set 1 (.int .i64 2)
  have f3 : Fr [b1] w2 ((w2.setCell ⟨b1, 0, none⟩ (.int .i64 6)).setCell ⟨b1, 1, none⟩ (.int .i64 2)) := ((Fr.refl _ w2).setCell (by simp) _).setCell (by simp) _
  obtain ⟨w3, hw3⟩ : ∃ x, (w2.setCell ⟨b1, 0, none⟩ (.int .i64 6)).setCell ⟨b1, 1, none⟩ (.int .i64 2) = x := ⟨_, rfl⟩
  rw [hw3] at p3 f3
  simp only [List.set_cons_zero, List.set_cons_succ] at p3
  have k3 := p3.cell
  have F3 := (F1.out.trans f2).step f3 (fun q hq => .inr (by simp at hq; omega))
  clear hw1 hb1
  replace p2 := Lib.hid p2; replace p3 := Lib.hid p3; replace f2 := Lib.hid f2; replace f3 := Lib.hid f3; replace F3 := Lib.hid F3
  go_wp2_with fail
  refine bodyPost_ret (v := .agg #[.int .i64 6, .int .i64 2]) (by simp [results, Try.results12, go_sem, k3]) rfl ⟨rfl, F3.out⟩
theorem row_4_11 (w : World) : Calls Try.prog 12 #[.int .i64 4, .int .i64 11] w fun e w' => e = .returned (.agg #[.int .i64 6, .int .i64 2]) ∧ Fr [] w w' := by
  obtain ⟨w1, hw1⟩ : ∃ x, w.alloc (.cells #[.int .i64 0, .int .i64 0] RRow) = x := ⟨_, rfl⟩
  have P1 := Pt.newA w RRow #[.int .i64 0, .int .i64 0]
  rw [hw1] at P1
  have F1 : Fr [] w w1 := by rw [← hw1]; exact (Fr.refl [] w).alloc _
  obtain ⟨b1, hb1⟩ : ∃ x, w.heap.size = x := ⟨_, rfl⟩
  rw [hb1] at P1
  have l1 := P1.lt
  have wb : w.heap.size ≤ b1 := by omega
  have FT := fun s n o => from_t s n o w1
  have FF := fun s n o => from_f s n o w1
  replace P1 := Lib.hid P1; replace F1 := Lib.hid F1; replace FT := Lib.hid FT; replace FF := Lib.hid FF
  go_enter Try.func12, Try.ntmps12
  go_wp2_with fail
  refine (FT.out _ _ _).mono ?_
  rintro e w2 ⟨rfl, f2⟩
  have p2 := f2.pt P1.out (by simp)
  have c2 := p2.cell
  have z2 := p2.free
  have p3 := (p2.set 0 (.int .i64 6)).set 1 (.int .i64 2)
  have f3 : Fr [b1] w2 ((w2.setCell ⟨b1, 0, none⟩ (.int .i64 6)).setCell ⟨b1, 1, none⟩ (.int .i64 2)) := ((Fr.refl _ w2).setCell (by simp) _).setCell (by simp) _
  obtain ⟨w3, hw3⟩ : ∃ x, (w2.setCell ⟨b1, 0, none⟩ (.int .i64 6)).setCell ⟨b1, 1, none⟩ (.int .i64 2) = x := ⟨_, rfl⟩
  rw [hw3] at p3 f3
  simp only [List.set_cons_zero, List.set_cons_succ] at p3
  have k3 := p3.cell
  have F3 := (F1.out.trans f2).step f3 (fun q hq => .inr (by simp at hq; omega))
  clear hw1 hb1
  replace p2 := Lib.hid p2; replace p3 := Lib.hid p3; replace f2 := Lib.hid f2; replace f3 := Lib.hid f3; replace F3 := Lib.hid F3
  go_wp2_with fail
  refine bodyPost_ret (v := .agg #[.int .i64 6, .int .i64 2]) (by simp [results, Try.results12, go_sem, k3]) rfl ⟨rfl, F3.out⟩
theorem row_5_11 (w : World) : Calls Try.prog 12 #[.int .i64 5, .int .i64 11] w fun e w' => e = .returned (.agg #[.int .i64 6, .int .i64 2]) ∧ Fr [] w w' := by
  obtain ⟨w1, hw1⟩ : ∃ x, w.alloc (.cells #[.int .i64 0, .int .i64 0] RRow) = x := ⟨_, rfl⟩
  have P1 := Pt.newA w RRow #[.int .i64 0, .int .i64 0]
  rw [hw1] at P1
  have F1 : Fr [] w w1 := by rw [← hw1]; exact (Fr.refl [] w).alloc _
  obtain ⟨b1, hb1⟩ : ∃ x, w.heap.size = x := ⟨_, rfl⟩
  rw [hb1] at P1
  have l1 := P1.lt
  have wb : w.heap.size ≤ b1 := by omega
  have FT := fun s n o => from_t s n o w1
  have FF := fun s n o => from_f s n o w1
  replace P1 := Lib.hid P1; replace F1 := Lib.hid F1; replace FT := Lib.hid FT; replace FF := Lib.hid FF
  go_enter Try.func12, Try.ntmps12
  go_wp2_with fail
  refine (FT.out _ _ _).mono ?_
  rintro e w2 ⟨rfl, f2⟩
  have p2 := f2.pt P1.out (by simp)
  have c2 := p2.cell
  have z2 := p2.free
  have p3 := (p2.set 0 (.int .i64 6)).set 1 (.int .i64 2)
  have f3 : Fr [b1] w2 ((w2.setCell ⟨b1, 0, none⟩ (.int .i64 6)).setCell ⟨b1, 1, none⟩ (.int .i64 2)) := ((Fr.refl _ w2).setCell (by simp) _).setCell (by simp) _
  obtain ⟨w3, hw3⟩ : ∃ x, (w2.setCell ⟨b1, 0, none⟩ (.int .i64 6)).setCell ⟨b1, 1, none⟩ (.int .i64 2) = x := ⟨_, rfl⟩
  rw [hw3] at p3 f3
  simp only [List.set_cons_zero, List.set_cons_succ] at p3
  have k3 := p3.cell
  have F3 := (F1.out.trans f2).step f3 (fun q hq => .inr (by simp at hq; omega))
  clear hw1 hb1
  replace p2 := Lib.hid p2; replace p3 := Lib.hid p3; replace f2 := Lib.hid f2; replace f3 := Lib.hid f3; replace F3 := Lib.hid F3
  go_wp2_with fail
  refine bodyPost_ret (v := .agg #[.int .i64 6, .int .i64 2]) (by simp [results, Try.results12, go_sem, k3]) rfl ⟨rfl, F3.out⟩
theorem row_6_11 (w : World) : Calls Try.prog 12 #[.int .i64 6, .int .i64 11] w fun e w' => e = .returned (.agg #[.int .i64 6, .int .i64 0]) ∧ Fr [] w w' := by
  obtain ⟨w1, hw1⟩ : ∃ x, w.alloc (.cells #[.int .i64 0, .int .i64 0] RRow) = x := ⟨_, rfl⟩
  have P1 := Pt.newA w RRow #[.int .i64 0, .int .i64 0]
  rw [hw1] at P1
  have F1 : Fr [] w w1 := by rw [← hw1]; exact (Fr.refl [] w).alloc _
  obtain ⟨b1, hb1⟩ : ∃ x, w.heap.size = x := ⟨_, rfl⟩
  rw [hb1] at P1
  have l1 := P1.lt
  have wb : w.heap.size ≤ b1 := by omega
  have FT := fun s n o => from_t s n o w1
  have FF := fun s n o => from_f s n o w1
  replace P1 := Lib.hid P1; replace F1 := Lib.hid F1; replace FT := Lib.hid FT; replace FF := Lib.hid FF
  go_enter Try.func12, Try.ntmps12
  go_wp2_with fail
  refine (FF.out _ _ _).mono ?_
  rintro e w2 ⟨rfl, f2⟩
  have p2 := f2.pt P1.out (by simp)
  have c2 := p2.cell
  have z2 := p2.free
  have p3 := (p2.set 0 (.int .i64 6)).set 1 (.int .i64 0)
  have f3 : Fr [b1] w2 ((w2.setCell ⟨b1, 0, none⟩ (.int .i64 6)).setCell ⟨b1, 1, none⟩ (.int .i64 0)) := ((Fr.refl _ w2).setCell (by simp) _).setCell (by simp) _
  obtain ⟨w3, hw3⟩ : ∃ x, (w2.setCell ⟨b1, 0, none⟩ (.int .i64 6)).setCell ⟨b1, 1, none⟩ (.int .i64 0) = x := ⟨_, rfl⟩
  rw [hw3] at p3 f3
  simp only [List.set_cons_zero, List.set_cons_succ] at p3
  have k3 := p3.cell
  have F3 := (F1.out.trans f2).step f3 (fun q hq => .inr (by simp at hq; omega))
  clear hw1 hb1
  replace p2 := Lib.hid p2; replace p3 := Lib.hid p3; replace f2 := Lib.hid f2; replace f3 := Lib.hid f3; replace F3 := Lib.hid F3
  go_wp2_with fail
  refine bodyPost_ret (v := .agg #[.int .i64 6, .int .i64 0]) (by simp [results, Try.results12, go_sem, k3]) rfl ⟨rfl, F3.out⟩
def rowv (s e : Nat) : Int × Int := (sesR.getD s []).getD e (0, 0)
theorem rrow_any (w : World) : ∀ (s e : Nat), s < 7 → e < 12 → Calls Try.prog 12 #[.int .i64 (s : Int), .int .i64 (e : Int)] w fun e' w' => e' = .returned (.agg #[.int .i64 (rowv s e).1, .int .i64 (rowv s e).2]) ∧ Fr [] w w'
  | 0, 0, _, _ => row_0_0 w
  | 0, 1, _, _ => row_0_1 w
  | 0, 2, _, _ => row_0_2 w
  | 0, 3, _, _ => row_0_3 w
  | 0, 4, _, _ => row_0_4 w
  | 0, 5, _, _ => row_0_5 w
  | 0, 6, _, _ => row_0_6 w
  | 0, 7, _, _ => row_0_7 w
  | 0, 8, _, _ => row_0_8 w
  | 0, 9, _, _ => row_0_9 w
  | 0, 10, _, _ => row_0_10 w
  | 0, 11, _, _ => row_0_11 w
  | 1, 0, _, _ => row_1_0 w
  | 1, 1, _, _ => row_1_1 w
  | 1, 2, _, _ => row_1_2 w
  | 1, 3, _, _ => row_1_3 w
  | 1, 4, _, _ => row_1_4 w
  | 1, 5, _, _ => row_1_5 w
  | 1, 6, _, _ => row_1_6 w
  | 1, 7, _, _ => row_1_7 w
  | 1, 8, _, _ => row_1_8 w
  | 1, 9, _, _ => row_1_9 w
  | 1, 10, _, _ => row_1_10 w
  | 1, 11, _, _ => row_1_11 w
  | 2, 0, _, _ => row_2_0 w
  | 2, 1, _, _ => row_2_1 w
  | 2, 2, _, _ => row_2_2 w
  | 2, 3, _, _ => row_2_3 w
  | 2, 4, _, _ => row_2_4 w
  | 2, 5, _, _ => row_2_5 w
  | 2, 6, _, _ => row_2_6 w
  | 2, 7, _, _ => row_2_7 w
  | 2, 8, _, _ => row_2_8 w
  | 2, 9, _, _ => row_2_9 w
  | 2, 10, _, _ => row_2_10 w
  | 2, 11, _, _ => row_2_11 w
  | 3, 0, _, _ => row_3_0 w
  | 3, 1, _, _ => row_3_1 w
  | 3, 2, _, _ => row_3_2 w
  | 3, 3, _, _ => row_3_3 w
  | 3, 4, _, _ => row_3_4 w
  | 3, 5, _, _ => row_3_5 w
  | 3, 6, _, _ => row_3_6 w
  | 3, 7, _, _ => row_3_7 w
  | 3, 8, _, _ => row_3_8 w
  | 3, 9, _, _ => row_3_9 w
  | 3, 10, _, _ => row_3_10 w
  | 3, 11, _, _ => row_3_11 w
  | 4, 0, _, _ => row_4_0 w
  | 4, 1, _, _ => row_4_1 w
  | 4, 2, _, _ => row_4_2 w
  | 4, 3, _, _ => row_4_3 w
  | 4, 4, _, _ => row_4_4 w
  | 4, 5, _, _ => row_4_5 w
  | 4, 6, _, _ => row_4_6 w
  | 4, 7, _, _ => row_4_7 w
  | 4, 8, _, _ => row_4_8 w
  | 4, 9, _, _ => row_4_9 w
  | 4, 10, _, _ => row_4_10 w
  | 4, 11, _, _ => row_4_11 w
  | 5, 0, _, _ => row_5_0 w
  | 5, 1, _, _ => row_5_1 w
  | 5, 2, _, _ => row_5_2 w
  | 5, 3, _, _ => row_5_3 w
  | 5, 4, _, _ => row_5_4 w
  | 5, 5, _, _ => row_5_5 w
  | 5, 6, _, _ => row_5_6 w
  | 5, 7, _, _ => row_5_7 w
  | 5, 8, _, _ => row_5_8 w
  | 5, 9, _, _ => row_5_9 w
  | 5, 10, _, _ => row_5_10 w
  | 5, 11, _, _ => row_5_11 w
  | 6, 0, _, _ => row_6_0 w
  | 6, 1, _, _ => row_6_1 w
  | 6, 2, _, _ => row_6_2 w
  | 6, 3, _, _ => row_6_3 w
  | 6, 4, _, _ => row_6_4 w
  | 6, 5, _, _ => row_6_5 w
  | 6, 6, _, _ => row_6_6 w
  | 6, 7, _, _ => row_6_7 w
  | 6, 8, _, _ => row_6_8 w
  | 6, 9, _, _ => row_6_9 w
  | 6, 10, _, _ => row_6_10 w
  | 6, 11, _, _ => row_6_11 w
  | s + 7, e, h, _ => by omega
  | s, e + 12, _, h => by omega
end Go.Proofs.Ytkfkkglodjehpaa
