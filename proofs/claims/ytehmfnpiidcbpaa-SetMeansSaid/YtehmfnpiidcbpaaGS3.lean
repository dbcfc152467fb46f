import Derived.Test.YtehmfnpiidcbpaaGS1
import Derived.Test.YtehmfnpiidcbpaaGP2
namespace Go.Proofs.Ytehmfnpiidcbpaa
open Go.RowKit
set_option linter.unusedVariables false
set_option linter.unusedSimpArgs false
set_option maxHeartbeats 16000000
set_option maxRecDepth 100000
/-! ### Valid, of the program and of the reference -/
theorem getD_at (l : List (Int × Int)) (i : Nat) (h : i < l.length) (d : Int × Int) : l.getD i d = l[i] := by rw [List.getD_eq_getElem?_getD, List.getElem?_eq_getElem h]; rfl
theorem okAt_no {l : List (Int × Int)} {i : Nat} (h : i < l.length) (hn : ¬ okAt l i) : valS l = false := by
  unfold valS
  rw [decide_eq_false_iff_not]
  rintro ⟨h2, _⟩
  exact hn (h2 i h)
/-- What is known ahead of range i. -/
structure VaAt (l : List (Int × Int)) (i : Nat) (x y p : Int) : Prop where
  iff : okAt l i ↔ x ≤ y ∧ -1000000000000000 ≤ x ∧ y ≤ 1000000000000000 ∧ (0 < i → p + 2 ≤ x)
  pb : 0 < i → -1000000000000000 ≤ p ∧ p ≤ 1000000000000000
theorem VaAt.mk' {l : List (Int × Int)} {i : Nat} (h : i < l.length) (hp : ∀ j, j < i → okAt l j) {x y : Int} (hx : l[i] = (x, y)) : VaAt l i x y (l.getD (i - 1) (0, 0)).2 := by
  refine ⟨?_, fun h0 => ?_⟩
  · unfold okAt; rw [getD_at l i h, hx]
  · obtain ⟨a, b, c, _⟩ := hp (i - 1) (by omega)
    omega
theorem valid_any (v : Value) (l : List (Int × Int)) (w : World) (h : PIn w v l) (hn : l.length ≤ 9223372036854775807) :
    Calls Try.prog 23 #[v] w fun e w' => e = .returned (.bool (valS l)) ∧ Fr [] w w' := by
  obtain ⟨o, cap, rfl, hl⟩ := h
  obtain ⟨V, hV⟩ : ∃ V, valS l = V := ⟨_, rfl⟩
  rw [hV]
  obtain ⟨N, hN⟩ : ∃ N, l.length = N := ⟨_, rfl⟩
  rw [hN] at hn ⊢
  replace hl := Lib.hid hl; replace hV := Lib.hid hV; replace hN := Lib.hid hN
  go_enter Try.func23, Try.ntmps23
  go_wp2_with fail
  go_loopg [7] (N + 1) (fun k v7 wr => ∃ i : Nat, i ≤ N ∧ k + i = N + 1 ∧ v7 = .int .i64 i ∧ (∀ j, j < i → okAt l j) ∧ Fr [] w wr)
  case atStart => exact ⟨0, by omega, by omega, rfl, fun j hj => absurd hj (Nat.not_lt_zero _), Fr.refl _ _⟩
  case round =>
    obtain ⟨i, hi, hk, rfl, hok, hF⟩ := hrel
    obtain ⟨wi, rfl⟩ : ∃ x : World, x = wr := ⟨_, rfl⟩
    by_cases hlt : i < N
    · have hltI : (i : Int) < N := by omega
      have hil : i < l.length := by have := hN.out; omega
      obtain ⟨B, off, rfl, hB, a1, a2⟩ := hl.out i hil
      have x1 := hF.cell (p := ⟨B, off + i * 2, none⟩) hB (by simp)
      have x2 := hF.cell (p := ⟨B, off + i * 2 + 1, none⟩) hB (by simp)
      rw [a1] at x1
      rw [a2] at x2
      obtain ⟨⟨lo, up⟩, hz⟩ : ∃ x, l[i] = x := ⟨_, rfl⟩
      have hva := VaAt.mk' hil hok hz
      obtain ⟨p, hp⟩ : ∃ p, (l.getD (i - 1) (0, 0)).2 = p := ⟨_, rfl⟩
      rw [hp] at hva
      obtain ⟨hiff, hpb⟩ := hva
      rw [hz] at x1 x2
      dsimp only at x1 x2
      have x3 : 0 < i → wi.cell? ⟨B, off + (i - 1) * 2 + 1, none⟩ = some (.int .i64 p) := fun h0 => by
        obtain ⟨B', off', e, hB', _, b2⟩ := hl.out (i - 1) (by omega)
        cases e
        rw [hF.cell (p := ⟨B, off + (i - 1) * 2 + 1, none⟩) hB (by simp), b2, ← hp, getD_at l (i - 1) (by omega)]
      obtain ⟨w1, hw1⟩ : ∃ x, wi.alloc (.cells #[.int .i64 lo, .int .i64 up] 51) = x := ⟨_, rfl⟩
      have P1 := Pt.newA wi 51 #[.int .i64 lo, .int .i64 up]
      rw [hw1] at P1
      have F1 : Fr [] wi w1 := by rw [← hw1]; exact (Fr.refl [] wi).alloc _
      obtain ⟨b1, hb1⟩ : ∃ x, wi.heap.size = x := ⟨_, rfl⟩
      rw [hb1] at P1
      have F2 := hF.trans F1
      have k1 := P1.cell
      have hno : ¬ okAt l i → valS l = false := fun h => okAt_no hil h
      rw [hV.out] at hno
      have hB2 : B < w1.heap.size := by have := F2.size; omega
      clear a1 a2
      by_cases c1 : up < lo
      · obtain rfl : V = false := hno (fun h => by have := hiff.1 h; omega)
        clear x3
        have d0 := decide_eq_true c1
        replace hiff := Lib.hid hiff; replace hpb := Lib.hid hpb; replace hok := Lib.hid hok; replace hF := Lib.hid hF; replace F1 := Lib.hid F1; replace P1 := Lib.hid P1; replace F2 := Lib.hid F2; replace hz := Lib.hid hz; replace hp := Lib.hid hp; replace hno := Lib.hid hno
        go_wp2_with fail
        go_quiet (fail)
        go_wp2_with fail
        go_ret
        exact ⟨rfl, F2.out.trans ((Fr.refl _ _).drewN _)⟩
      · by_cases c2 : lo < -1000000000000000
        · obtain rfl : V = false := hno (fun h => by have := hiff.1 h; omega)
          clear x3
          have d0 := decide_eq_false c1
          have d1 := decide_eq_true c2
          replace hiff := Lib.hid hiff; replace hpb := Lib.hid hpb; replace hok := Lib.hid hok; replace hF := Lib.hid hF; replace F1 := Lib.hid F1; replace P1 := Lib.hid P1; replace F2 := Lib.hid F2; replace hz := Lib.hid hz; replace hp := Lib.hid hp; replace hno := Lib.hid hno
          go_wp2_with fail
          go_quiet (fail)
          go_wp2_with fail
          go_ret
          exact ⟨rfl, F2.out.trans ((Fr.refl _ _).drewN _)⟩
        · by_cases c3 : 1000000000000000 < up
          · obtain rfl : V = false := hno (fun h => by have := hiff.1 h; omega)
            clear x3
            have d0 := decide_eq_false c1
            have d1 := decide_eq_false c2
            have d2 := decide_eq_true c3
            replace hiff := Lib.hid hiff; replace hpb := Lib.hid hpb; replace hok := Lib.hid hok; replace hF := Lib.hid hF; replace F1 := Lib.hid F1; replace P1 := Lib.hid P1; replace F2 := Lib.hid F2; replace hz := Lib.hid hz; replace hp := Lib.hid hp; replace hno := Lib.hid hno
            go_wp2_with fail
            go_quiet (fail)
            go_wp2_with fail
            go_ret
            exact ⟨rfl, F2.out.trans ((Fr.refl _ _).drewN _)⟩
          · obtain rfl | ⟨j, rfl⟩ : i = 0 ∨ ∃ j, i = j + 1 := by cases i with | zero => exact .inl rfl | succ j => exact .inr ⟨j, rfl⟩
            · have hok1 : ∀ j, j < 1 → okAt l j := fun j hj => by
                obtain rfl : j = 0 := by omega
                exact hiff.2 ⟨by omega, by omega, by omega, fun h => absurd h (Nat.lt_irrefl _)⟩
              clear x3
              simp only [Nat.zero_mul, Nat.add_zero] at x1 x2
              have d0 := decide_eq_false c1
              have d1 := decide_eq_false c2
              have d2 := decide_eq_false c3
              have d3 := decide_eq_false (show ¬ (0 : Int) < ((0 : Nat) : Int) by omega)
              replace hiff := Lib.hid hiff; replace hpb := Lib.hid hpb; replace hok := Lib.hid hok; replace hF := Lib.hid hF; replace F1 := Lib.hid F1; replace P1 := Lib.hid P1; replace F2 := Lib.hid F2; replace hz := Lib.hid hz; replace hp := Lib.hid hp; replace hno := Lib.hid hno; replace hok1 := Lib.hid hok1
              go_wp2_with fail
              go_quiet (fail)
              go_wp2_with fail
              go_roundg (gk - 1)
              case measure => omega
              case rel => exact ⟨1, by omega, by omega, by go_num, hok1.out, F2.out.trans ((Fr.refl _ _).drewN _)⟩
            · have x3 := x3 (by omega)
              rw [show j + 1 - 1 = j by omega] at x3
              have x4 := F1.cell (p := ⟨B, off + j * 2 + 1, none⟩) (by have := hF.size; exact Nat.lt_of_lt_of_le hB this) (by simp)
              rw [x3] at x4
              have x5 := F1.cell (p := ⟨B, off + (j + 1) * 2, none⟩) (by have := hF.size; exact Nat.lt_of_lt_of_le hB this) (by simp)
              rw [x1] at x5
              have hj0 : (0 : Int) < ((j + 1 : Nat) : Int) := by omega
              have hj1 : ((j + 1 : Nat) : Int) - 1 = (j : Int) := by omega
              have hjN : (j : Int) < N := by omega
              have hpb' := hpb (by omega)
              by_cases c4 : lo - p < 2
              · obtain rfl : V = false := hno (fun h => by have := (hiff.1 h).2.2.2 (by omega); omega)
                clear x3
                have d0 := decide_eq_false c1
                have d1 := decide_eq_false c2
                have d2 := decide_eq_false c3
                have d3 := decide_eq_true hj0
                have d4 := decide_eq_true c4
                replace hiff := Lib.hid hiff; replace hpb := Lib.hid hpb; replace hok := Lib.hid hok; replace hF := Lib.hid hF; replace F1 := Lib.hid F1; replace P1 := Lib.hid P1; replace F2 := Lib.hid F2; replace hz := Lib.hid hz; replace hp := Lib.hid hp; replace hno := Lib.hid hno
                go_wp2_with fail
                go_quiet (fail)
                go_wp2_with fail
                go_ret
                exact ⟨rfl, F2.out.trans ((Fr.refl _ _).drewN _)⟩
              · have hok1 : ∀ q, q < j + 1 + 1 → okAt l q := fun q hq => by
                  by_cases e : q < j + 1
                  · exact hok q e
                  · obtain rfl : q = j + 1 := by omega
                    exact hiff.2 ⟨by omega, by omega, by omega, fun h => by omega⟩
                clear x3
                have d0 := decide_eq_false c1
                have d1 := decide_eq_false c2
                have d2 := decide_eq_false c3
                have d3 := decide_eq_true hj0
                have d4 := decide_eq_false c4
                replace hiff := Lib.hid hiff; replace hpb := Lib.hid hpb; replace hok := Lib.hid hok; replace hF := Lib.hid hF; replace F1 := Lib.hid F1; replace P1 := Lib.hid P1; replace F2 := Lib.hid F2; replace hz := Lib.hid hz; replace hp := Lib.hid hp; replace hno := Lib.hid hno; replace hok1 := Lib.hid hok1
                go_wp2_with fail
                go_quiet (fail)
                go_wp2_with fail
                go_roundg (gk - 1)
                case measure => omega
                case rel => exact ⟨j + 1 + 1, by omega, by omega, by go_num, hok1.out, F2.out.trans ((Fr.refl _ _).drewN _)⟩
    · have hltI : ¬ (i : Int) < N := by omega
      obtain rfl : i = N := by omega
      have hv : V = decide ((i : Int) ≤ 100) := by
        rw [← hV.out]
        unfold valS
        congr 1
        rw [hN.out]
        refine propext ⟨fun h => by omega, fun h => ⟨fun j hj => hok j (by have := hN.out; omega), by omega⟩⟩
      replace hok := Lib.hid hok; replace hF := Lib.hid hF; replace hv := Lib.hid hv
      go_wp2_with fail
      go_ret
      exact ⟨ret_b hv.out.symm, hF.out⟩
end Go.Proofs.Ytehmfnpiidcbpaa
