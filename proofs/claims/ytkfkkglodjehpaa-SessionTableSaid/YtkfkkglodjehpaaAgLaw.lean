import Derived.Test.YtkfkkglodjehpaaAgree
import Derived.Laws.BitsLemmas
namespace Go.Proofs.Ytkfkkglodjehpaa.Ag
open Go.RowKit
set_option maxHeartbeats 800000
theorem bits_and_nat (a b : Nat) (ha : a < 2 ^ 62) (hb : b < 2 ^ 62) : bits .and .i64 (a : Int) (b : Int) = ((a &&& b : Nat) : Int) :=
  (bits_nat .i64 62 (by decide) (fun n h0 h1 => by rw [IntKind.wrap_i64]; omega) a b ha hb).1
theorem and_range (a b : Int) (a0 : 0 ≤ a) (a1 : a ≤ 2047) (b0 : 0 ≤ b) (b1 : b ≤ 2047) : 0 ≤ bits .and .i64 a b ∧ bits .and .i64 a b ≤ 2047 ∧ bits .and .i64 b a = bits .and .i64 a b := by
  obtain ⟨x, rfl⟩ := Int.eq_ofNat_of_zero_le a0
  obtain ⟨y, rfl⟩ := Int.eq_ofNat_of_zero_le b0
  rw [bits_and_nat x y (by omega) (by omega), bits_and_nat y x (by omega) (by omega), Nat.and_comm y x]
  have := @Nat.and_le_left x y
  exact ⟨by omega, by omega, rfl⟩
theorem prop_range {n : Int} (h : propB n = true) : 0 ≤ n ∧ n ≤ 2047 := by
  simp only [propB, Bool.and_eq_true, decide_eq_true_eq] at h
  exact ⟨h.1.1.1, h.1.1.2⟩
theorem ret_bool {a b : Bool} (h : a = b) : Ending.returned (.bool a) = .returned (.bool b) := by rw [h]
theorem prop_any (n : Int) (w : World) : Calls Try.prog 24 #[.int .i64 n] w fun e w' => e = .returned (.bool (propB n)) ∧ Below w.heap.size w w' := by
  by_cases h : n < 0 ∨ 2047 < n ∨ (bits .and .i64 n 3 == 0) = true
  · refine (prop_neg n w h).mono fun e w' ⟨he, hb⟩ => ⟨he.trans (ret_bool ?_), hb⟩
    unfold propB
    rcases h with h | h | h
    · rw [decide_eq_false (show ¬ 0 ≤ n by omega)]; simp
    · rw [decide_eq_false (show ¬ n ≤ 2047 by omega)]; simp
    · rw [h]; simp
  · have h0 : 0 ≤ n := by omega
    have h1 : n ≤ 2047 := by omega
    have h3 : (bits .and .i64 n 3 == 0) = false := by rw [← Bool.not_eq_true]; exact fun h' => h (.inr (.inr h'))
    refine (prop_pos n w h0 h1 h3).mono fun e w' ⟨he, hb⟩ => ⟨he.trans (ret_bool ?_), hb⟩
    unfold propB
    rw [decide_eq_true h0, decide_eq_true h1, h3]; rfl
/-- What Agree answers. -/
def agU (a b : Int) : Int := if propB a && propB b then agreeP (bits .and .i64 a b) else 0
def agE (a b : Int) : Int := if propB a && propB b then 0 else 1
theorem Agree_any (a b : Int) (w : World) :
    Calls Try.prog 18 #[.int .i64 a, .int .i64 b] w fun e w' => e = .returned (.tuple #[.int .i64 (agU a b), .int .i64 (agE a b)]) ∧ Below w.heap.size w w' := by
  unfold agU agE
  rcases pa : propB a with _ | _
  · go_enter Try.func18, Try.ntmps18
    go_wp2_with fail
    refine (prop_any a _).mono ?_
    rintro e w1 ⟨rfl, hb⟩
    rw [pa]
    go_wp2
    go_ret2
    exact ⟨rfl, hb⟩
  · rcases pb : propB b with _ | _
    · go_enter Try.func18, Try.ntmps18
      go_wp2_with fail
      refine (prop_any a _).mono ?_
      rintro e w1 ⟨rfl, hb⟩
      rw [pa]
      go_wp2_with fail
      refine (prop_any b _).mono ?_
      rintro e w2 ⟨rfl, hb2⟩
      rw [pb]
      go_wp2
      go_ret2
      exact ⟨rfl, hb.trans (hb2.mono hb.size)⟩
    · obtain ⟨a0, a1⟩ := prop_range pa
      obtain ⟨b0, b1⟩ := prop_range pb
      obtain ⟨r0, r1, _⟩ := and_range a b a0 a1 b0 b1
      go_enter Try.func18, Try.ntmps18
      go_wp2_with fail
      refine (prop_any a _).mono ?_
      rintro e w1 ⟨rfl, hb⟩
      rw [pa]
      go_wp2_with fail
      refine (prop_any b _).mono ?_
      rintro e w2 ⟨rfl, hb2⟩
      rw [pb]
      go_wp2_with fail
      refine (agree_any a b _ r0 r1).mono ?_
      rintro e w3 ⟨rfl, hb3⟩
      go_wp2
      go_ret2
      have h2 := hb.trans (hb2.mono hb.size)
      exact ⟨rfl, h2.trans (hb3.mono h2.size)⟩
theorem agU_ex : agU 19 18 = 18 := by decide +kernel
theorem agE_ex : agE 19 18 = 0 := by decide +kernel
theorem sane_any (w : World) : Calls Try.prog 11 #[] w fun e w' => e = .returned (.bool true) ∧ Below w.heap.size w w' := by
  have e1 : agU 19 18 = 18 := agU_ex
  have e2 : agE 19 18 = 0 := agE_ex
  go_enter Try.func11, Try.ntmps11
  go_wp2_with fail
  refine (Agree_any 19 18 _).mono ?_
  rintro e w1 ⟨rfl, hb⟩
  rw [e1, e2]
  go_wp2
  go_ret
  exact ⟨rfl, hb⟩
end Go.Proofs.Ytkfkkglodjehpaa.Ag
