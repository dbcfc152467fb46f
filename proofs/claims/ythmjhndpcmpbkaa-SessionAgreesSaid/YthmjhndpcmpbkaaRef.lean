import Derived.Test.YthmjhndpcmpbkaaAgree
import Derived.WalkSpells
import Derived.WalkLawsBesides
namespace Go.Proofs.Ythmjhndpcmpbkaa
open Go.RowKit
def hasB (a b : Int) : Bool := bits BinOp.and .i64 a b == b
def fedB (a : Int) : Bool := (!hasB a 128 || hasB a 48) && (!hasB a 256 || hasB a 1) && (!hasB a 1024 || hasB a 128)
def proB (u : Int) : Bool := decide (0 ≤ u) && decide (u ≤ 2047) && (hasB u 1 || hasB u 2) && fedB u
def refS (u a b : Int) : Int := if hasB u a && !hasB u b then u - a else u
def refPass (u : Int) : Int := refS (refS (refS u 128 48) 256 1) 1024 128
def ref0 (n : Int) : Int := if hasB n 3 then n - 1 else n
def refAg (n : Int) : Int := if !hasB (ref0 n) 1 && !hasB (ref0 n) 2 then 0 else needPass (ref0 n)
set_option maxHeartbeats 400000
theorem has_any (a b : Int) (w : World) :
    Calls Try.prog 12 #[.int .i64 a, .int .i64 b] w fun e w' => e = .returned (.bool (hasB a b)) ∧ w = w' := by
  unfold hasB
  go_enter Try.func12, Try.ntmps12
  go_wp2
  go_ret
  exact ⟨rfl, rfl⟩
theorem ret_bool {a b : Bool} (h : a = b) : Ending.returned (.bool a) = .returned (.bool b) := by rw [h]
theorem ret_i64 {a b : Int} (h : a = b) : Ending.returned (.int .i64 a) = .returned (.int .i64 b) := by rw [h]
theorem fed_any (a : Int) (w : World) :
    Calls Try.prog 13 #[.int .i64 a] w fun e w' => e = .returned (.bool (fedB a)) ∧ w = w' := by
  go_enter Try.func13, Try.ntmps13
  go_wp2_with (go_at_call 12; refine (has_any _ _ _).mono ?_; rintro e w' ⟨rfl, rfl⟩)
  all_goals
    go_ret
    exact ⟨ret_bool (by unfold fedB; simp [*]), rfl⟩
theorem pro_any (u : Int) (w : World) :
    Calls Try.prog 9 #[.int .i64 u] w fun e w' => e = .returned (.bool (proB u)) ∧ w = w' := by
  by_cases h0 : 0 ≤ u
  · by_cases h1 : u ≤ 2047
    · go_enter Try.func9, Try.ntmps9
      go_wp2_with (first | (go_at_call 12; refine (has_any _ _ _).mono ?_; rintro e w' ⟨rfl, rfl⟩) | (go_at_call 13; refine (fed_any _ _).mono ?_; rintro e w' ⟨rfl, rfl⟩))
      all_goals
        go_ret
        exact ⟨ret_bool (by unfold proB; simp [*]), rfl⟩
    · have h2 : 2047 < u := by omega
      go_enter Try.func9, Try.ntmps9
      go_wp2_with (first | (go_at_call 12; refine (has_any _ _ _).mono ?_; rintro e w' ⟨rfl, rfl⟩) | (go_at_call 13; refine (fed_any _ _).mono ?_; rintro e w' ⟨rfl, rfl⟩))
      all_goals
        go_ret
        exact ⟨ret_bool (by unfold proB; rw [decide_eq_false (show ¬ u ≤ 2047 by omega)]; simp), rfl⟩
  · have h2 : u < 0 := by omega
    go_enter Try.func9, Try.ntmps9
    go_wp2_with (first | (go_at_call 12; refine (has_any _ _ _).mono ?_; rintro e w' ⟨rfl, rfl⟩) | (go_at_call 13; refine (fed_any _ _).mono ?_; rintro e w' ⟨rfl, rfl⟩))
    all_goals
      go_ret
      exact ⟨ret_bool (by unfold proB; rw [decide_eq_false (show ¬ 0 ≤ u by omega)]; simp), rfl⟩
theorem refPass_all (u : Int) (h0 : 0 ≤ u) (h1 : u ≤ 2047) : (fedB u = true → needPass u = u) ∧ (fedB u = false → 0 ≤ refPass u ∧ refPass u < u ∧ needPass (refPass u) = needPass u) ∧ 0 ≤ ref0 u ∧ ref0 u ≤ 2047 ∧ refAg u = agreeP u := by
  have := all2048 (p := fun u => (!fedB u || needPass u == u) && (fedB u || (decide (0 ≤ refPass u) && decide (refPass u < u) && needPass (refPass u) == needPass u)) && decide (0 ≤ ref0 u) && decide (ref0 u ≤ 2047) && refAg u == agreeP u) (by decide +kernel) u h0 h1
  simp only [Bool.and_eq_true, Bool.or_eq_true, Bool.not_eq_true', beq_iff_eq, decide_eq_true_eq] at this
  obtain ⟨⟨⟨⟨a, b⟩, c⟩, d⟩, e⟩ := this
  exact ⟨fun h => by simpa [h] using a, fun h => by simpa [h, and_assoc] using b, c, d, e⟩
set_option maxHeartbeats 2000000 in
theorem refagree_any (a b : Int) (w : World) (h1 : 0 ≤ bits .and .i64 a b) (h2 : bits .and .i64 a b ≤ 2047) :
    Calls Try.prog 10 #[.int .i64 a, .int .i64 b] w fun e w' => e = .returned (.int .i64 (agreeP (bits .and .i64 a b))) ∧ w = w' := by
  obtain ⟨n, hn⟩ : ∃ n, bits .and .i64 a b = n := ⟨_, rfl⟩
  rw [hn] at h1 h2 ⊢
  obtain ⟨_, _, r0, r1, hag⟩ := refPass_all n h1 h2
  have Hag := Lib.hid hag
  clear hag
  obtain ⟨g, hg⟩ : ∃ g, ref0 n = g := ⟨_, rfl⟩
  rw [hg] at r0 r1
  have Hg := Lib.hid hg
  clear hg
  have fin : ∀ u, 0 ≤ u → u ≤ 2047 → fedB u = true → needPass u = needPass g → (!hasB g 1 && !hasB g 2) = false → u = agreeP n := by
    intro u a1 a2 a3 a4 a5
    rw [← Hag.out, refAg, Hg.out, a5, ← a4]
    exact ((refPass_all u a1 a2).1 a3).symm
  have Fin := Lib.hid fin
  clear fin
  have zero : (!hasB g 1 && !hasB g 2) = true → agreeP n = 0 := by
    intro a5
    rw [← Hag.out, refAg, Hg.out, a5]; rfl
  have Zero := Lib.hid zero
  clear zero
  by_cases p3 : hasB n 3 = true
  · have hgv : n - 1 = g := by rw [← Hg.out, ref0, if_pos p3]
    rcases q1 : hasB g 1 with _ | _
    · rcases q2 : hasB g 2 with _ | _
      · go_enter Try.func10, Try.ntmps10
        go_wp2_with (first | (go_at_call 12; refine (has_any _ _ _).mono ?_; rintro e w' ⟨rfl, rfl⟩) | (go_at_call 13; refine (fed_any _ _).mono ?_; rintro e w' ⟨rfl, rfl⟩))
        go_ret
        exact ⟨ret_i64 (by rw [Zero.out (by rw [q1, q2]; rfl)]), rfl⟩
      · have H12 : (!hasB g 1 && !hasB g 2) = false := by rw [q1, q2]; rfl
        have h12 := Lib.hid H12
        clear H12
        go_enter Try.func10, Try.ntmps10
        go_wp2_with (first | (go_at_call 12; refine (has_any _ _ _).mono ?_; rintro e w' ⟨rfl, rfl⟩) | (go_at_call 13; refine (fed_any _ _).mono ?_; rintro e w' ⟨rfl, rfl⟩))
        clear hn
        go_loop [5] (fun v => ∃ u : Int, 0 ≤ u ∧ u ≤ 2047 ∧ Hid (needPass u = needPass g) ∧ v = .int .i64 u) (fun v => (intOf v).toNat)
        case atStart => exact ⟨g, by omega, by omega, rfl, rfl⟩
        case round =>
          obtain ⟨u, hu0, hu1, hu, rfl⟩ := hrel
          have HP := Lib.hid (refPass_all u hu0 hu1)
          by_cases hf : fedB u = true
          · go_wp2_with (first | (go_at_call 12; refine (has_any _ _ _).mono ?_; rintro e w' ⟨rfl, rfl⟩) | (go_at_call 13; refine (fed_any _ _).mono ?_; rintro e w' ⟨rfl, rfl⟩))
            go_ret
            exact ⟨ret_i64 (Fin.out u hu0 hu1 hf hu.out h12.out), rfl⟩
          · rw [Bool.not_eq_true] at hf
            go_wp2_with (first | (go_at_call 12; refine (has_any _ _ _).mono ?_; rintro e w' ⟨rfl, rfl⟩) | (go_at_call 13; refine (fed_any _ _).mono ?_; rintro e w' ⟨rfl, rfl⟩))
            all_goals
              have hp := HP.out.2.1 hf
              go_round
              case rel => exact ⟨refPass u, hp.1, by omega, by show _ = _; rw [hp.2.2]; exact hu.out, by simp [refPass, refS, *]⟩
              case measure => have e : _ = refPass u := (by simp [refPass, refS, *]; rfl); simp [intOf]; omega
    · have H12 : (!hasB g 1 && !hasB g 2) = false := by rw [q1]; rfl
      have h12 := Lib.hid H12
      clear H12
      go_enter Try.func10, Try.ntmps10
      go_wp2_with (first | (go_at_call 12; refine (has_any _ _ _).mono ?_; rintro e w' ⟨rfl, rfl⟩) | (go_at_call 13; refine (fed_any _ _).mono ?_; rintro e w' ⟨rfl, rfl⟩))
      clear hn
      go_loop [5] (fun v => ∃ u : Int, 0 ≤ u ∧ u ≤ 2047 ∧ Hid (needPass u = needPass g) ∧ v = .int .i64 u) (fun v => (intOf v).toNat)
      case atStart => exact ⟨g, by omega, by omega, rfl, rfl⟩
      case round =>
        obtain ⟨u, hu0, hu1, hu, rfl⟩ := hrel
        have HP := Lib.hid (refPass_all u hu0 hu1)
        by_cases hf : fedB u = true
        · go_wp2_with (first | (go_at_call 12; refine (has_any _ _ _).mono ?_; rintro e w' ⟨rfl, rfl⟩) | (go_at_call 13; refine (fed_any _ _).mono ?_; rintro e w' ⟨rfl, rfl⟩))
          go_ret
          exact ⟨ret_i64 (Fin.out u hu0 hu1 hf hu.out h12.out), rfl⟩
        · rw [Bool.not_eq_true] at hf
          go_wp2_with (first | (go_at_call 12; refine (has_any _ _ _).mono ?_; rintro e w' ⟨rfl, rfl⟩) | (go_at_call 13; refine (fed_any _ _).mono ?_; rintro e w' ⟨rfl, rfl⟩))
          all_goals
            have hp := HP.out.2.1 hf
            go_round
            case rel => exact ⟨refPass u, hp.1, by omega, by show _ = _; rw [hp.2.2]; exact hu.out, by simp [refPass, refS, *]⟩
            case measure => have e : _ = refPass u := (by simp [refPass, refS, *]; rfl); simp [intOf]; omega
  · rw [Bool.not_eq_true] at p3
    obtain rfl : n = g := by rw [← Hg.out, ref0, p3]; rfl
    rcases q1 : hasB n 1 with _ | _
    · rcases q2 : hasB n 2 with _ | _
      · go_enter Try.func10, Try.ntmps10
        go_wp2_with (first | (go_at_call 12; refine (has_any _ _ _).mono ?_; rintro e w' ⟨rfl, rfl⟩) | (go_at_call 13; refine (fed_any _ _).mono ?_; rintro e w' ⟨rfl, rfl⟩))
        go_ret
        exact ⟨ret_i64 (by rw [Zero.out (by rw [q1, q2]; rfl)]), rfl⟩
      · have H12 : (!hasB n 1 && !hasB n 2) = false := by rw [q1, q2]; rfl
        have h12 := Lib.hid H12
        clear H12
        go_enter Try.func10, Try.ntmps10
        go_wp2_with (first | (go_at_call 12; refine (has_any _ _ _).mono ?_; rintro e w' ⟨rfl, rfl⟩) | (go_at_call 13; refine (fed_any _ _).mono ?_; rintro e w' ⟨rfl, rfl⟩))
        clear hn
        go_loop [5] (fun v => ∃ u : Int, 0 ≤ u ∧ u ≤ 2047 ∧ Hid (needPass u = needPass n) ∧ v = .int .i64 u) (fun v => (intOf v).toNat)
        case atStart => exact ⟨n, by omega, by omega, rfl, rfl⟩
        case round =>
          obtain ⟨u, hu0, hu1, hu, rfl⟩ := hrel
          have HP := Lib.hid (refPass_all u hu0 hu1)
          by_cases hf : fedB u = true
          · go_wp2_with (first | (go_at_call 12; refine (has_any _ _ _).mono ?_; rintro e w' ⟨rfl, rfl⟩) | (go_at_call 13; refine (fed_any _ _).mono ?_; rintro e w' ⟨rfl, rfl⟩))
            go_ret
            exact ⟨ret_i64 (Fin.out u hu0 hu1 hf hu.out h12.out), rfl⟩
          · rw [Bool.not_eq_true] at hf
            go_wp2_with (first | (go_at_call 12; refine (has_any _ _ _).mono ?_; rintro e w' ⟨rfl, rfl⟩) | (go_at_call 13; refine (fed_any _ _).mono ?_; rintro e w' ⟨rfl, rfl⟩))
            all_goals
              have hp := HP.out.2.1 hf
              go_round
              case rel => exact ⟨refPass u, hp.1, by omega, by show _ = _; rw [hp.2.2]; exact hu.out, by simp [refPass, refS, *]⟩
              case measure => have e : _ = refPass u := (by simp [refPass, refS, *]; rfl); simp [intOf]; omega
    · have H12 : (!hasB n 1 && !hasB n 2) = false := by rw [q1]; rfl
      have h12 := Lib.hid H12
      clear H12
      go_enter Try.func10, Try.ntmps10
      go_wp2_with (first | (go_at_call 12; refine (has_any _ _ _).mono ?_; rintro e w' ⟨rfl, rfl⟩) | (go_at_call 13; refine (fed_any _ _).mono ?_; rintro e w' ⟨rfl, rfl⟩))
      clear hn
      go_loop [5] (fun v => ∃ u : Int, 0 ≤ u ∧ u ≤ 2047 ∧ Hid (needPass u = needPass n) ∧ v = .int .i64 u) (fun v => (intOf v).toNat)
      case atStart => exact ⟨n, by omega, by omega, rfl, rfl⟩
      case round =>
        obtain ⟨u, hu0, hu1, hu, rfl⟩ := hrel
        have HP := Lib.hid (refPass_all u hu0 hu1)
        by_cases hf : fedB u = true
        · go_wp2_with (first | (go_at_call 12; refine (has_any _ _ _).mono ?_; rintro e w' ⟨rfl, rfl⟩) | (go_at_call 13; refine (fed_any _ _).mono ?_; rintro e w' ⟨rfl, rfl⟩))
          go_ret
          exact ⟨ret_i64 (Fin.out u hu0 hu1 hf hu.out h12.out), rfl⟩
        · rw [Bool.not_eq_true] at hf
          go_wp2_with (first | (go_at_call 12; refine (has_any _ _ _).mono ?_; rintro e w' ⟨rfl, rfl⟩) | (go_at_call 13; refine (fed_any _ _).mono ?_; rintro e w' ⟨rfl, rfl⟩))
          all_goals
            have hp := HP.out.2.1 hf
            go_round
            case rel => exact ⟨refPass u, hp.1, by omega, by show _ = _; rw [hp.2.2]; exact hu.out, by simp [refPass, refS, *]⟩
            case measure => have e : _ = refPass u := (by simp [refPass, refS, *]; rfl); simp [intOf]; omega
end Go.Proofs.Ythmjhndpcmpbkaa
