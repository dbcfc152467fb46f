import Derived.Test.YtjgmlnkbplgloaaR19
namespace Go.Proofs.Ytjgmlnkbplgloaa
open Go.RowKit
set_option linter.unusedVariables false
set_option linter.unusedSimpArgs false
set_option maxHeartbeats 16000000
set_option maxRecDepth 20000
def sideQ (p : PQ) (j : Bool) : Bool := decide ((p.q j).length = 0) && !(p.sd j).wt && !(p.sd j).kt
theorem quiet_eq (p : PQ) : p.quiet = (sideQ p false && sideQ p true) := by
  unfold PQ.quiet sideQ
  cases decide ((p.q false).length = 0) <;> cases decide ((p.q true).length = 0) <;> cases (p.sd false).wt <;> cases (p.sd false).kt <;> cases (p.sd true).wt <;> cases (p.sd true).kt <;> rfl
theorem quiet_any (base bp : Nat) (bb : Bool → Nat) (p : PQ) (w : World) (rs : Bool → RS) (vv : Bool → Value) (o ro rt : Bool → Option Nat) (lab : Nat → Nat) (h : RQ base w bp bb rs p.q vv o ro rt lab)
    (hs : ∀ j, Sim (rs j) (p.sd j)) :
    Calls Try.prog 36 #[.pointer (some ⟨bp, 0, none⟩)] w fun e w' => e = .returned (.bool p.quiet) ∧ w = w' := by
  rw [quiet_eq]
  have pc := h.pair.cell
  obtain ⟨o0, k0, hv0⟩ := (h.row false).len
  obtain ⟨o1, k1, hv1⟩ := (h.row true).len
  obtain ⟨_, _, r0, _⟩ := h.rm false
  obtain ⟨_, _, r1, _⟩ := h.rm true
  have g0 := r0.cell 7; have g1 := r0.cell 10; have g2 := r1.cell 7; have g3 := r1.cell 10
  have d0 := pc 0; have d1 := pc 1; have d2 := pc 2; have d3 := pc 3
  have e0 := (hs false).wt; have e1 := (hs false).kt; have e2 := (hs true).wt; have e3 := (hs true).kt
  simp only [RS.cells, List.getElem?_cons_zero, List.getElem?_cons_succ, e0, e1, e2, e3, hv0, hv1] at g0 g1 g2 g3 d0 d1 d2 d3
  unfold sideQ
  obtain ⟨n0, hn0⟩ : ∃ x, (p.q false).length = x := ⟨_, rfl⟩
  obtain ⟨n1, hn1⟩ : ∃ x, (p.q true).length = x := ⟨_, rfl⟩
  obtain ⟨b0, hb0⟩ : ∃ x, bb false = x := ⟨_, rfl⟩
  obtain ⟨b1, hb1⟩ : ∃ x, bb true = x := ⟨_, rfl⟩
  obtain ⟨x0, hx0⟩ : ∃ x, (p.sd false).wt = x := ⟨_, rfl⟩
  obtain ⟨x1, hx1⟩ : ∃ x, (p.sd false).kt = x := ⟨_, rfl⟩
  obtain ⟨x2, hx2⟩ : ∃ x, (p.sd true).wt = x := ⟨_, rfl⟩
  obtain ⟨x3, hx3⟩ : ∃ x, (p.sd true).kt = x := ⟨_, rfl⟩
  rw [hn0, hn1, hx0, hx1, hx2, hx3]
  rw [hb0, hx0] at g0
  rw [hb0, hx1] at g1
  rw [hb1, hx2] at g2
  rw [hb1, hx3] at g3
  rw [hb0] at d0
  rw [hb1] at d1
  rw [hn0] at d2
  rw [hn1] at d3
  clear hn0 hn1 hb0 hb1 hx0 hx1 hx2 hx3 e0 e1 e2 e3 hv0 hv1 pc r0 r1 h hs
  go_enter Try.func36, Try.ntmps36
  go_wp2_with fail
  go_loop [3] (fun v => v = .int .i64 0 ∨ (v = .int .i64 1 ∧ n0 = 0 ∧ x0 = false ∧ x1 = false) ∨ (v = .int .i64 2 ∧ n0 = 0 ∧ x0 = false ∧ x1 = false ∧ n1 = 0 ∧ x2 = false ∧ x3 = false)) (fun v => 3 - (intOf v).toNat)
  case atStart => exact .inl rfl
  case round =>
    rcases hrel with rfl | ⟨rfl, rfl, rfl, rfl⟩ | ⟨rfl, rfl, rfl, rfl, rfl, rfl, rfl⟩
    · by_cases hz : n0 = 0
      · subst hz
        cases x0
        · cases x1
          · go_wp2_with fail
            go_round
            case rel => simp
            case measure => simp [intOf]
          · go_wp2_with fail
            go_ret
            exact ⟨rfl, rfl⟩
        · go_wp2_with fail
          go_ret
          exact ⟨rfl, rfl⟩
      · have hz2 : (0 : Int) < (n0 : Int) := by omega
        replace hz := Lib.hid hz
        go_wp2_with fail
        go_ret
        exact ⟨by simp [hz.out], rfl⟩
    · by_cases hz : n1 = 0
      · subst hz
        cases x2
        · cases x3
          · go_wp2_with fail
            go_round
            case rel => simp
            case measure => simp [intOf]
          · go_wp2_with fail
            go_ret
            exact ⟨rfl, rfl⟩
        · go_wp2_with fail
          go_ret
          exact ⟨rfl, rfl⟩
      · have hz2 : (0 : Int) < (n1 : Int) := by omega
        replace hz := Lib.hid hz
        go_wp2_with fail
        go_ret
        exact ⟨by simp [hz.out], rfl⟩
    · go_wp2_with fail
      go_ret
      exact ⟨rfl, rfl⟩
theorem begin_any (N : Int) (w : World) (hN : 0 ≤ N ∧ N ≤ 999999) :
    Calls Try.prog 34 #[.int .i64 N] w fun e w' => ∃ bp bb rs v o ro rt lab, e = .returned (.pointer (some ⟨bp, 0, none⟩)) ∧ (∀ j, Sim (rs j) ((startQ N).sd j)) ∧ RQ w.heap.size w' bp bb rs (startQ N).q v o ro rt lab ∧ Fr [] w w' := by
  have R1 := Lib.hid (fun w => rnew_ok true N w hN)
  have R2 := Lib.hid (fun w => rnew_ok false N w hN)
  go_enter Try.func34, Try.ntmps34
  go_wp2_with fail
  refine (R1.out _).mono ?_
  rintro e w1 ⟨rfl, m1, f1⟩
  have l1 := m1.lt
  obtain ⟨b0, hb0⟩ : ∃ x, w.heap.size = x := ⟨_, rfl⟩
  rw [hb0] at m1
  simp only [hb0]
  replace m1 := Lib.hid m1; replace f1 := Lib.hid f1
  go_wp2_with fail
  refine (R2.out _).mono ?_
  rintro e w2 ⟨rfl, m2, f2⟩
  have l2 := m2.lt
  obtain ⟨b1, hb1⟩ : ∃ x, w1.heap.size = x := ⟨_, rfl⟩
  rw [hb1] at m2
  simp only [hb1]
  replace m2 := Lib.hid m2; replace f2 := Lib.hid f2
  go_wp2_with fail
  go_ret
  have f3 : Fr [] w2 (w2.alloc (.cells #[.pointer (some ⟨b0, 0, none⟩), .pointer (some ⟨b1, 0, none⟩), .slice none 0 0, .slice none 0 0] TPair)) := (Fr.refl [] w2).alloc _
  have c1 : b0 ≠ b1 := by omega
  have c2 : w2.heap.size ≠ b0 := by omega
  have c3 : w2.heap.size ≠ b1 := by omega
  refine ⟨_, fun j => if j then b1 else b0, fun j => ⟨!j, N, N, N, 0, [], [], false, 0, 0, false, 0, 0⟩, fun _ => .slice none 0 0, fun _ => none, fun _ => none, fun _ => none, fun x => if x = w2.heap.size then 0 else if x = b0 then 1 else 2, rfl, fun j => ?_, ?_, (f1.out.trans f2.out).trans f3⟩
  · exact ⟨rfl, rfl, rfl, rfl, rfl, rfl, rfl, rfl, rfl, fun h => by simp [startQ, sd0] at h, fun h => by simp [startQ, sd0] at h⟩
  · refine { pair := Pt.newA w2 TPair _, row := fun i => Row.nil 6 _ none, rm := fun i => ?_, l0 := if_pos rfl, lb := fun i => ?_, lo := by simp, lr := by simp, lt := by simp, gp := by omega, gb := fun i => ?_, go := by simp, gr := by simp, gt := by simp }
    · cases i
      · exact (m1.out.fr0 f2.out).fr0 f3
      · exact m2.out.fr0 f3
    · cases i
      · show (if b0 = w2.heap.size then 0 else if b0 = b0 then 1 else 2) = 1
        rw [if_neg (fun h => c2 h.symm), if_pos rfl]
      · show (if b1 = w2.heap.size then 0 else if b1 = b0 then 1 else 2) = 2
        rw [if_neg (fun h => c3 h.symm), if_neg (fun h => c1 h.symm)]
    · cases i
      · show w.heap.size ≤ b0
        omega
      · show w.heap.size ≤ b1
        omega
end Go.Proofs.Ytjgmlnkbplgloaa
