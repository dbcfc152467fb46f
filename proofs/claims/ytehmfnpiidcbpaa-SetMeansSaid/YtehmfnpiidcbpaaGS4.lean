import Derived.Test.YtehmfnpiidcbpaaGS3
namespace Go.Proofs.Ytehmfnpiidcbpaa
open Go.RowKit
set_option linter.unusedVariables false
set_option linter.unusedSimpArgs false
set_option maxHeartbeats 16000000
set_option maxRecDepth 100000
theorem rvalid_any (v : Value) (l : List (Int × Int)) (w : World) (h : PIn w v l) (hn : l.length ≤ 9223372036854775807) :
    Calls Try.prog 7 #[v] w fun e w' => e = .returned (.bool (valS l)) ∧ Fr [] w w' := by
  obtain ⟨o, cap, rfl, hl⟩ := h
  obtain ⟨V, hV⟩ : ∃ V, valS l = V := ⟨_, rfl⟩
  rw [hV]
  obtain ⟨N, hN⟩ : ∃ N, l.length = N := ⟨_, rfl⟩
  rw [hN] at hn ⊢
  by_cases h100 : (100 : Int) < (N : Int)
  · obtain rfl : V = false := by
      rw [← hV]; unfold valS; rw [decide_eq_false_iff_not]; rintro ⟨_, h2⟩; omega
    replace hl := Lib.hid hl; replace hV := Lib.hid hV; replace hN := Lib.hid hN
    go_enter Try.func7, Try.ntmps7
    go_wp2_with fail
    go_ret
    exact ⟨rfl, Fr.refl _ _⟩
  · skip
    replace hl := Lib.hid hl; replace hV := Lib.hid hV; replace hN := Lib.hid hN
    go_enter Try.func7, Try.ntmps7
    go_wp2_with fail
    go_loopg [3] (N + 1) (fun k v7 wr => ∃ i : Nat, i ≤ N ∧ k + i = N + 1 ∧ v7 = .int .i64 i ∧ (∀ j, j < i → okAt l j) ∧ Fr [] w wr)
    case atStart => exact ⟨0, by omega, by omega, rfl, fun j hj => absurd hj (Nat.not_lt_zero _), Fr.refl _ _⟩
    case round =>
      obtain ⟨i, hi, hk, rfl, hok, hF⟩ := hrel
      obtain ⟨wi, rfl⟩ : ∃ x : World, x = wr := ⟨_, rfl⟩
      by_cases hlt : i < N
      · have hltI : (i : Int) < N := by omega
        have hil : i < l.length := by have := hN.out; omega
        obtain ⟨B, off, rfl, hB, a1, a2⟩ := hl.out i hil
        have x1 := hF.cell (p := ⟨B, off + i * 2, none⟩) hB (by simp)
        have x2 := hF.cell (p := ⟨B, off + i * 2 + 1, none⟩) hB (by simp)
        rw [a1] at x1
        rw [a2] at x2
        obtain ⟨⟨lo, up⟩, hz⟩ : ∃ x, l[i] = x := ⟨_, rfl⟩
        have hva := VaAt.mk' hil hok hz
        obtain ⟨p, hp⟩ : ∃ p, (l.getD (i - 1) (0, 0)).2 = p := ⟨_, rfl⟩
        rw [hp] at hva
        obtain ⟨hiff, hpb⟩ := hva
        rw [hz] at x1 x2
        dsimp only at x1 x2
        have x3 : 0 < i → wi.cell? ⟨B, off + (i - 1) * 2 + 1, none⟩ = some (.int .i64 p) := fun h0 => by
          obtain ⟨B', off', e, hB', _, b2⟩ := hl.out (i - 1) (by omega)
          cases e
          rw [hF.cell (p := ⟨B, off + (i - 1) * 2 + 1, none⟩) hB (by simp), b2, ← hp, getD_at l (i - 1) (by omega)]
        have hno : ¬ okAt l i → valS l = false := fun h => okAt_no hil h
        rw [hV.out] at hno
        clear a1 a2
        by_cases c1 : up < lo
        · obtain rfl : V = false := hno (fun h => by have := hiff.1 h; omega)
          clear x3
          have d0 := decide_eq_true c1
          replace hiff := Lib.hid hiff; replace hpb := Lib.hid hpb; replace hok := Lib.hid hok; replace hF := Lib.hid hF; replace hz := Lib.hid hz; replace hp := Lib.hid hp; replace hno := Lib.hid hno
          go_wp2_with fail
          go_quiet (fail)
          go_wp2_with fail
          go_ret
          exact ⟨rfl, hF.out.trans ((Fr.refl _ _).drewN _)⟩
        · by_cases c2 : lo < -1000000000000000
          · obtain rfl : V = false := hno (fun h => by have := hiff.1 h; omega)
            clear x3
            have d0 := decide_eq_false c1
            have d1 := decide_eq_true c2
            replace hiff := Lib.hid hiff; replace hpb := Lib.hid hpb; replace hok := Lib.hid hok; replace hF := Lib.hid hF; replace hz := Lib.hid hz; replace hp := Lib.hid hp; replace hno := Lib.hid hno
            go_wp2_with fail
            go_quiet (fail)
            go_wp2_with fail
            go_ret
            exact ⟨rfl, hF.out.trans ((Fr.refl _ _).drewN _)⟩
          · by_cases c3 : 1000000000000000 < up
            · obtain rfl : V = false := hno (fun h => by have := hiff.1 h; omega)
              clear x3
              have d0 := decide_eq_false c1
              have d1 := decide_eq_false c2
              have d2 := decide_eq_true c3
              replace hiff := Lib.hid hiff; replace hpb := Lib.hid hpb; replace hok := Lib.hid hok; replace hF := Lib.hid hF; replace hz := Lib.hid hz; replace hp := Lib.hid hp; replace hno := Lib.hid hno
              go_wp2_with fail
              go_quiet (fail)
              go_wp2_with fail
              go_ret
              exact ⟨rfl, hF.out.trans ((Fr.refl _ _).drewN _)⟩
            · have d0 := decide_eq_false c1
              have d1 := decide_eq_false c2
              have d2 := decide_eq_false c3
              obtain rfl | ⟨j, rfl⟩ : i = 0 ∨ ∃ j, i = j + 1 := by cases i with | zero => exact .inl rfl | succ j => exact .inr ⟨j, rfl⟩
              · have hok1 : ∀ j, j < 1 → okAt l j := fun j hj => by
                  obtain rfl : j = 0 := by omega
                  exact hiff.2 ⟨by omega, by omega, by omega, fun h => absurd h (Nat.lt_irrefl _)⟩
                clear x3
                simp only [Nat.zero_mul, Nat.add_zero] at x1 x2
                have d3 := decide_eq_false (show ¬ (0 : Int) < ((0 : Nat) : Int) by omega)
                replace hiff := Lib.hid hiff; replace hpb := Lib.hid hpb; replace hok := Lib.hid hok; replace hF := Lib.hid hF; replace hz := Lib.hid hz; replace hp := Lib.hid hp; replace hno := Lib.hid hno; replace hok1 := Lib.hid hok1
                go_wp2_with fail
                go_quiet (fail)
                go_wp2_with fail
                go_roundg (gk - 1)
                case measure => omega
                case rel => exact ⟨1, by omega, by omega, by go_num, hok1.out, hF.out.trans ((Fr.refl _ _).drewN _)⟩
              · have x3 := x3 (by omega)
                rw [show j + 1 - 1 = j by omega] at x3
                have hj0 : (0 : Int) < ((j + 1 : Nat) : Int) := by omega
                have hj1 : ((j + 1 : Nat) : Int) - 1 = (j : Int) := by omega
                have hjN : (j : Int) < N := by omega
                have hpb' := hpb (by omega)
                have d3 := decide_eq_true hj0
                by_cases c4 : lo < p + 2
                · obtain rfl : V = false := hno (fun h => by have := (hiff.1 h).2.2.2 (by omega); omega)
                  have d4 := decide_eq_true c4
                  replace hiff := Lib.hid hiff; replace hpb := Lib.hid hpb; replace hok := Lib.hid hok; replace hF := Lib.hid hF; replace hz := Lib.hid hz; replace hp := Lib.hid hp; replace hno := Lib.hid hno
                  go_wp2_with fail
                  go_quiet (fail)
                  go_wp2_with fail
                  go_ret
                  exact ⟨rfl, hF.out.trans ((Fr.refl _ _).drewN _)⟩
                · have hok1 : ∀ q, q < j + 1 + 1 → okAt l q := fun q hq => by
                    by_cases e : q < j + 1
                    · exact hok q e
                    · obtain rfl : q = j + 1 := by omega
                      exact hiff.2 ⟨by omega, by omega, by omega, fun h => by omega⟩
                  have d4 := decide_eq_false c4
                  replace hiff := Lib.hid hiff; replace hpb := Lib.hid hpb; replace hok := Lib.hid hok; replace hF := Lib.hid hF; replace hz := Lib.hid hz; replace hp := Lib.hid hp; replace hno := Lib.hid hno; replace hok1 := Lib.hid hok1
                  go_wp2_with fail
                  go_quiet (fail)
                  go_wp2_with fail
                  go_roundg (gk - 1)
                  case measure => omega
                  case rel => exact ⟨j + 1 + 1, by omega, by omega, by go_num, hok1.out, hF.out.trans ((Fr.refl _ _).drewN _)⟩
      · have hltI : ¬ (i : Int) < N := by omega
        obtain rfl : i = N := by omega
        have hv : V = true := by
          rw [← hV.out]
          unfold valS
          rw [decide_eq_true_iff]
          exact ⟨fun j hj => hok j (by have := hN.out; omega), by have := hN.out; omega⟩
        replace hok := Lib.hid hok; replace hF := Lib.hid hF; replace hv := Lib.hid hv
        go_wp2_with fail
        go_ret
        exact ⟨ret_b hv.out.symm, hF.out⟩
theorem in_any (v : Value) (l : List (Int × Int)) (x : Int) (w : World) (h : PIn w v l) (hn : l.length ≤ 9223372036854775807) :
    Calls Try.prog 15 #[v, .int .i64 x] w fun e w' => e = .returned (.bool (hasF l x)) ∧ Fr [] w w' := by
  obtain ⟨o, cap, rfl, hl⟩ := h
  obtain ⟨V, hV⟩ : ∃ V, hasF l x = V := ⟨_, rfl⟩
  rw [hV]
  obtain ⟨N, hN⟩ : ∃ N, l.length = N := ⟨_, rfl⟩
  rw [hN] at hn ⊢
  replace hl := Lib.hid hl; replace hV := Lib.hid hV; replace hN := Lib.hid hN
  go_enter Try.func15, Try.ntmps15
  go_wp2_with fail
  go_loopg [5] (N + 1) (fun k v7 wr => ∃ i : Nat, i ≤ N ∧ k + i = N + 1 ∧ v7 = .int .i64 i ∧ hasF (l.take i) x = false ∧ Fr [] w wr)
  case atStart => exact ⟨0, by omega, by omega, rfl, rfl, Fr.refl _ _⟩
  case round =>
    obtain ⟨i, hi, hk, rfl, hok, hF⟩ := hrel
    obtain ⟨wi, rfl⟩ : ∃ x : World, x = wr := ⟨_, rfl⟩
    by_cases hlt : i < N
    · have hltI : (i : Int) < N := by omega
      have hil : i < l.length := by have := hN.out; omega
      obtain ⟨B, off, rfl, hB, a1, a2⟩ := hl.out i hil
      have x1 := hF.cell (p := ⟨B, off + i * 2, none⟩) hB (by simp)
      have x2 := hF.cell (p := ⟨B, off + i * 2 + 1, none⟩) hB (by simp)
      rw [a1] at x1
      rw [a2] at x2
      obtain ⟨⟨lo, up⟩, hz⟩ : ∃ x, l[i] = x := ⟨_, rfl⟩
      rw [hz] at x1 x2
      dsimp only at x1 x2
      have hyes : lo ≤ x ∧ x ≤ up → hasF l x = true := fun h => by
        unfold hasF; rw [List.any_eq_true]; exact ⟨_, List.getElem_mem hil, by rw [hz]; simp [h]⟩
      rw [hV.out] at hyes
      have hnx : ¬ (lo ≤ x ∧ x ≤ up) → hasF (l.take (i + 1)) x = false := fun h => by
        unfold hasF at hok ⊢
        rw [List.take_succ_eq_append_getElem hil, List.any_append, hok, hz]
        simp only [List.any_cons, List.any_nil, Bool.or_false, Bool.false_or, Bool.and_eq_false_imp, decide_eq_true_eq, decide_eq_false_iff_not]
        exact fun h1 h2 => h ⟨h1, h2⟩
      clear a1 a2
      by_cases c1 : lo ≤ x
      · by_cases c2 : x ≤ up
        · obtain rfl : V = true := hyes ⟨c1, c2⟩
          have d0 := decide_eq_true c1
          have d1 := decide_eq_true c2
          replace hok := Lib.hid hok; replace hF := Lib.hid hF; replace hz := Lib.hid hz; replace hyes := Lib.hid hyes; replace hnx := Lib.hid hnx
          go_wp2_with fail
          go_ret
          exact ⟨rfl, hF.out⟩
        · have hnx := hnx (fun h => c2 h.2)
          have d0 := decide_eq_true c1
          have d1 := decide_eq_false c2
          replace hok := Lib.hid hok; replace hF := Lib.hid hF; replace hz := Lib.hid hz; replace hyes := Lib.hid hyes; replace hnx := Lib.hid hnx
          go_wp2_with fail
          go_roundg (gk - 1)
          case measure => omega
          case rel => exact ⟨i + 1, by omega, by omega, by go_num, hnx.out, hF.out⟩
      · have hnx := hnx (fun h => c1 h.1)
        have d0 := decide_eq_false c1
        replace hok := Lib.hid hok; replace hF := Lib.hid hF; replace hz := Lib.hid hz; replace hyes := Lib.hid hyes; replace hnx := Lib.hid hnx
        go_wp2_with fail
        go_roundg (gk - 1)
        case measure => omega
        case rel => exact ⟨i + 1, by omega, by omega, by go_num, hnx.out, hF.out⟩
    · have hltI : ¬ (i : Int) < N := by omega
      obtain rfl : i = N := by omega
      have hv : V = false := by
        rw [← hV.out]
        have := hN.out
        rw [← this, List.take_length] at hok
        exact hok
      replace hok := Lib.hid hok; replace hF := Lib.hid hF; replace hv := Lib.hid hv
      go_wp2_with fail
      go_ret
      exact ⟨ret_b hv.out.symm, hF.out⟩
end Go.Proofs.Ytehmfnpiidcbpaa
