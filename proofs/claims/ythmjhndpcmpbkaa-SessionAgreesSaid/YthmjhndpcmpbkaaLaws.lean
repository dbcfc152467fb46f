import Derived.Test.YthmjhndpcmpbkaaRef
import Derived.Laws.BitsLemmas
namespace Go.Proofs.Ythmjhndpcmpbkaa
open Go.RowKit
set_option maxHeartbeats 800000
theorem bits_and_nat (a b : Nat) (ha : a < 2 ^ 62) (hb : b < 2 ^ 62) : bits .and .i64 (a : Int) (b : Int) = ((a &&& b : Nat) : Int) :=
  (bits_nat .i64 62 (by decide) (fun n h0 h1 => by rw [IntKind.wrap_i64]; omega) a b ha hb).1
theorem and_range (a b : Int) (a0 : 0 ≤ a) (a1 : a ≤ 2047) (b0 : 0 ≤ b) (b1 : b ≤ 2047) : 0 ≤ bits .and .i64 a b ∧ bits .and .i64 a b ≤ 2047 ∧ bits .and .i64 b a = bits .and .i64 a b := by
  obtain ⟨x, rfl⟩ := Int.eq_ofNat_of_zero_le a0
  obtain ⟨y, rfl⟩ := Int.eq_ofNat_of_zero_le b0
  rw [bits_and_nat x y (by omega) (by omega), bits_and_nat y x (by omega) (by omega), Nat.and_comm y x]
  have := @Nat.and_le_left x y
  exact ⟨by omega, by omega, rfl⟩
theorem agP_all (n : Int) (h0 : 0 ≤ n) (h1 : n ≤ 2047) : propB n = proB n ∧ 0 ≤ agreeP n ∧ agreeP n ≤ 2047 ∧ bits .and .i64 (agreeP n) n = agreeP n ∧ bits .and .i64 (agreeP n) (agreeP n) = agreeP n ∧ agreeP (agreeP n) = agreeP n ∧ (agreeP n = 0 ∨ propB (agreeP n) = true) := by
  have := all2048 (p := fun n => propB n == proB n && decide (0 ≤ agreeP n) && decide (agreeP n ≤ 2047) && bits .and .i64 (agreeP n) n == agreeP n && bits .and .i64 (agreeP n) (agreeP n) == agreeP n && agreeP (agreeP n) == agreeP n && (agreeP n == 0 || propB (agreeP n))) (by decide +kernel) n h0 h1
  simpa [and_assoc] using this
theorem prop_eq (n : Int) : propB n = proB n := by
  by_cases h0 : 0 ≤ n
  · by_cases h1 : n ≤ 2047
    · exact (agP_all n h0 h1).1
    · simp [propB, proB, h1]
  · simp [propB, proB, h0]
theorem prop_range {n : Int} (h : propB n = true) : 0 ≤ n ∧ n ≤ 2047 := by
  simp only [propB, Bool.and_eq_true, decide_eq_true_eq] at h
  exact ⟨h.1.1.1, h.1.1.2⟩
theorem sub_and (u a b : Int) (u0 : 0 ≤ u) (u1 : u ≤ 2047) (a0 : 0 ≤ a) (a1 : a ≤ 2047) (b0 : 0 ≤ b) (b1 : b ≤ 2047) (h : bits .and .i64 u (bits .and .i64 a b) = u) : bits .and .i64 u a = u ∧ bits .and .i64 u b = u := by
  obtain ⟨x, rfl⟩ := Int.eq_ofNat_of_zero_le a0
  obtain ⟨y, rfl⟩ := Int.eq_ofNat_of_zero_le b0
  obtain ⟨z, rfl⟩ := Int.eq_ofNat_of_zero_le u0
  have hxy := @Nat.and_le_left x y
  rw [bits_and_nat x y (by omega) (by omega), bits_and_nat z _ (by omega) (by omega)] at h
  rw [bits_and_nat z x (by omega) (by omega), bits_and_nat z y (by omega) (by omega)]
  have h' : z &&& (x &&& y) = z := by exact_mod_cast h
  constructor
  · congr 1; exact_mod_cast (show z &&& x = z by
      conv => rhs; rw [← h']
      conv => lhs; rw [← h']
      rw [Nat.and_assoc, Nat.and_comm (x &&& y) x, ← Nat.and_assoc x x y, Nat.and_self])
  · congr 1; exact_mod_cast (show z &&& y = z by
      conv => rhs; rw [← h']
      conv => lhs; rw [← h']
      rw [Nat.and_assoc, Nat.and_assoc x y y, Nat.and_self])
theorem prop_any (n : Int) (w : World) : Calls Try.prog 7 #[.int .i64 n] w fun e w' => e = .returned (.bool (propB n)) ∧ Below w.heap.size w w' := by
  by_cases h : n < 0 ∨ 2047 < n ∨ (bits .and .i64 n 3 == 0) = true
  · refine (prop_neg n w h).mono fun e w' ⟨he, hb⟩ => ⟨he.trans (ret_bool ?_), hb⟩
    unfold propB
    rcases h with h | h | h
    · rw [decide_eq_false (show ¬ 0 ≤ n by omega)]; simp
    · rw [decide_eq_false (show ¬ n ≤ 2047 by omega)]; simp
    · rw [h]; simp
  · have h0 : 0 ≤ n := by omega
    have h1 : n ≤ 2047 := by omega
    have h3 : (bits .and .i64 n 3 == 0) = false := by rw [← Bool.not_eq_true]; exact fun h' => h (.inr (.inr h'))
    refine (prop_pos n w h0 h1 h3).mono fun e w' ⟨he, hb⟩ => ⟨he.trans (ret_bool ?_), hb⟩
    unfold propB
    rw [decide_eq_true h0, decide_eq_true h1, h3]; rfl
/-- What Agree answers. -/
def agU (a b : Int) : Int := if propB a && propB b then agreeP (bits .and .i64 a b) else 0
def agE (a b : Int) : Int := if propB a && propB b then 0 else 1
theorem Agree_any (a b : Int) (w : World) :
    Calls Try.prog 4 #[.int .i64 a, .int .i64 b] w fun e w' => e = .returned (.tuple #[.int .i64 (agU a b), .int .i64 (agE a b)]) ∧ Below w.heap.size w w' := by
  unfold agU agE
  rcases pa : propB a with _ | _
  · go_enter Try.func4, Try.ntmps4
    go_wp2_with fail
    refine (prop_any a _).mono ?_
    rintro e w1 ⟨rfl, hb⟩
    rw [pa]
    go_wp2
    go_ret2
    exact ⟨rfl, hb⟩
  · rcases pb : propB b with _ | _
    · go_enter Try.func4, Try.ntmps4
      go_wp2_with fail
      refine (prop_any a _).mono ?_
      rintro e w1 ⟨rfl, hb⟩
      rw [pa]
      go_wp2_with fail
      refine (prop_any b _).mono ?_
      rintro e w2 ⟨rfl, hb2⟩
      rw [pb]
      go_wp2
      go_ret2
      exact ⟨rfl, hb.trans (hb2.mono hb.size)⟩
    · obtain ⟨a0, a1⟩ := prop_range pa
      obtain ⟨b0, b1⟩ := prop_range pb
      obtain ⟨r0, r1, _⟩ := and_range a b a0 a1 b0 b1
      go_enter Try.func4, Try.ntmps4
      go_wp2_with fail
      refine (prop_any a _).mono ?_
      rintro e w1 ⟨rfl, hb⟩
      rw [pa]
      go_wp2_with fail
      refine (prop_any b _).mono ?_
      rintro e w2 ⟨rfl, hb2⟩
      rw [pb]
      go_wp2_with fail
      refine (agree_any a b _ r0 r1).mono ?_
      rintro e w3 ⟨rfl, hb3⟩
      go_wp2
      go_ret2
      have h2 := hb.trans (hb2.mono hb.size)
      exact ⟨rfl, h2.trans (hb3.mono h2.size)⟩
theorem RAgree_any (a b : Int) (w : World) :
    Calls Try.prog 5 #[.int .i64 a, .int .i64 b] w fun e w' => e = .returned (.tuple #[.int .i64 (agU a b), .int .i64 (agE a b)]) ∧ w = w' := by
  unfold agU agE
  rcases pa : propB a with _ | _
  · have ea : proB a = false := by rw [← prop_eq, pa]
    clear pa
    go_enter Try.func5, Try.ntmps5
    go_wp2_with fail
    refine (pro_any a _).mono ?_
    rintro e w1 ⟨rfl, rfl⟩
    rw [ea]
    go_wp2
    go_ret2
    exact ⟨rfl, rfl⟩
  · have ea : proB a = true := by rw [← prop_eq, pa]
    rcases pb : propB b with _ | _
    · have eb : proB b = false := by rw [← prop_eq, pb]
      clear pa pb
      go_enter Try.func5, Try.ntmps5
      go_wp2_with fail
      refine (pro_any a _).mono ?_
      rintro e w1 ⟨rfl, rfl⟩
      rw [ea]
      go_wp2_with fail
      refine (pro_any b _).mono ?_
      rintro e w2 ⟨rfl, rfl⟩
      rw [eb]
      go_wp2
      go_ret2
      exact ⟨rfl, rfl⟩
    · have eb : proB b = true := by rw [← prop_eq, pb]
      obtain ⟨a0, a1⟩ := prop_range pa
      obtain ⟨b0, b1⟩ := prop_range pb
      obtain ⟨r0, r1, _⟩ := and_range a b a0 a1 b0 b1
      clear pa pb
      go_enter Try.func5, Try.ntmps5
      go_wp2_with fail
      refine (pro_any a _).mono ?_
      rintro e w1 ⟨rfl, rfl⟩
      rw [ea]
      go_wp2_with fail
      refine (pro_any b _).mono ?_
      rintro e w2 ⟨rfl, rfl⟩
      rw [eb]
      go_wp2_with fail
      refine (refagree_any a b _ r0 r1).mono ?_
      rintro e w3 ⟨rfl, rfl⟩
      go_wp2
      go_ret2
      exact ⟨rfl, rfl⟩
theorem agU_ex : agU 19 18 = 18 := by decide +kernel
theorem agE_ex : agE 19 18 = 0 := by decide +kernel
theorem sane_any (w : World) : Calls Try.prog 6 #[] w fun e w' => e = .returned (.bool true) ∧ Below w.heap.size w w' := by
  have e1 : agU 19 18 = 18 := agU_ex
  have e2 : agE 19 18 = 0 := agE_ex
  go_enter Try.func6, Try.ntmps6
  go_wp2_with fail
  refine (Agree_any 19 18 _).mono ?_
  rintro e w1 ⟨rfl, hb⟩
  rw [e1, e2]
  go_wp2
  go_ret
  exact ⟨rfl, hb⟩
theorem agU_comm (a b : Int) : agU b a = agU a b ∧ agE b a = agE a b := by
  unfold agU agE
  by_cases h : (propB a && propB b) = true
  · have h' : (propB b && propB a) = true := by rw [Bool.and_comm]; exact h
    rw [if_pos h, if_pos h, if_pos h', if_pos h']
    rw [Bool.and_eq_true] at h
    obtain ⟨a0, a1⟩ := prop_range h.1
    obtain ⟨b0, b1⟩ := prop_range h.2
    exact ⟨by rw [(and_range a b a0 a1 b0 b1).2.2], rfl⟩
  · have h' : ¬ (propB b && propB a) = true := by rw [Bool.and_comm]; exact h
    rw [if_neg h, if_neg h, if_neg h', if_neg h']
    exact ⟨rfl, rfl⟩
theorem law_any (a b : Int) (w : World) :
    Calls Try.prog 3 #[.int .i64 a, .int .i64 b] w fun e w' => e = .returned (.bool true) ∧ Below w.heap.size w w' := by
  obtain ⟨c1, c2⟩ := agU_comm a b
  have hz : agE a b ≠ 0 → agU a b = 0 := by unfold agE agU; split <;> simp
  have hu : agE a b = 0 → agU a b ≠ 0 → bits .and .i64 (agU a b) a = agU a b ∧ bits .and .i64 (agU a b) b = agU a b ∧ agE (agU a b) (agU a b) = 0 ∧ agU (agU a b) (agU a b) = agU a b := by
    intro h0 h1
    have hp : (propB a && propB b) = true := by
      unfold agE at h0
      by_cases h : (propB a && propB b) = true
      · exact h
      · rw [if_neg h] at h0; cases h0
    have hU : agU a b = agreeP (bits .and .i64 a b) := by unfold agU; rw [if_pos hp]
    rw [Bool.and_eq_true] at hp
    obtain ⟨a0, a1⟩ := prop_range hp.1
    obtain ⟨b0, b1⟩ := prop_range hp.2
    obtain ⟨r0, r1, _⟩ := and_range a b a0 a1 b0 b1
    obtain ⟨_, u0, u1, hn, hs, ha, hpr⟩ := agP_all _ r0 r1
    rw [hU] at h1 ⊢
    obtain ⟨s1, s2⟩ := sub_and _ a b u0 u1 a0 a1 b0 b1 hn
    have hpp : propB (agreeP (bits .and .i64 a b)) = true := hpr.resolve_left h1
    refine ⟨s1, s2, ?_, ?_⟩
    · unfold agE; rw [hpp]; rfl
    · unfold agU; rw [hpp, hs, ha]; rfl
  obtain ⟨u, hu'⟩ : ∃ u, agU a b = u := ⟨_, rfl⟩
  obtain ⟨x, hx'⟩ : ∃ x, agE a b = x := ⟨_, rfl⟩
  rw [hu', hx'] at hu hz
  rw [hu'] at c1; rw [hx'] at c2
  have HU := Lib.hid hu'; have HX := Lib.hid hx'; have C1 := Lib.hid c1; have C2 := Lib.hid c2
  clear hu' hx' c1 c2
  by_cases hx0 : x = 0
  · by_cases hu0 : u = 0
    · have HUU := Lib.hid hu; clear hu hz
      have h1 : (u == 0) = true := by simp [hu0]
      have h2 : (x != 0) = false := by simp [hx0]
      clear hx0 hu0
      go_enter Try.func3, Try.ntmps3
      go_wp2_with fail
      refine (Agree_any a b _).mono ?_
      rintro e w1 ⟨rfl, hb1⟩
      rw [HU.out, HX.out]
      go_wp2_with fail
      refine (RAgree_any a b _).mono ?_
      rintro e w2 ⟨rfl, rfl⟩
      rw [HU.out, HX.out]
      go_wp2_with fail
      refine (Agree_any b a _).mono ?_
      rintro e w3 ⟨rfl, hb3⟩
      rw [C1.out, C2.out]
      go_wp2_with fail
      refine (sane_any _).mono ?_
      rintro e w4 ⟨rfl, hb4⟩
      go_wp2
      go_ret
      have k3 := hb1.trans (hb3.mono hb1.size)
      exact ⟨rfl, k3.trans (hb4.mono k3.size)⟩
    · obtain ⟨s1, s2, s3, s4⟩ := hu hx0 hu0
      have S3 := Lib.hid s3; have S4 := Lib.hid s4; clear s3 s4
      have h1 : (u == 0) = false := by simp [hu0]
      have h2 : (x != 0) = false := by simp [hx0]
      have h3 : (x == 0) = true := by simp [hx0]
      clear hx0 hu0 hu hz
      go_enter Try.func3, Try.ntmps3
      go_wp2_with fail
      refine (Agree_any a b _).mono ?_
      rintro e w1 ⟨rfl, hb1⟩
      rw [HU.out, HX.out]
      go_wp2_with fail
      refine (RAgree_any a b _).mono ?_
      rintro e w2 ⟨rfl, rfl⟩
      rw [HU.out, HX.out]
      go_wp2_with fail
      refine (Agree_any b a _).mono ?_
      rintro e w3 ⟨rfl, hb3⟩
      rw [C1.out, C2.out]
      go_wp2_with fail
      refine (Agree_any u u _).mono ?_
      rintro e w5 ⟨rfl, hb5⟩
      rw [S3.out, S4.out]
      go_wp2_with fail
      refine (sane_any _).mono ?_
      rintro e w4 ⟨rfl, hb4⟩
      go_wp2
      go_ret
      have k3 := hb1.trans (hb3.mono hb1.size)
      have k5 := k3.trans (hb5.mono k3.size)
      exact ⟨rfl, k5.trans (hb4.mono k5.size)⟩
  · have hu0 := hz hx0
    have h1 : (u == 0) = true := by simp [hu0]
    have h2 : (x != 0) = true := by simp [hx0]
    clear hx0 hu0 hu hz
    go_enter Try.func3, Try.ntmps3
    go_wp2_with fail
    refine (Agree_any a b _).mono ?_
    rintro e w1 ⟨rfl, hb1⟩
    rw [HU.out, HX.out]
    go_wp2_with fail
    refine (RAgree_any a b _).mono ?_
    rintro e w2 ⟨rfl, rfl⟩
    rw [HU.out, HX.out]
    go_wp2_with fail
    refine (Agree_any b a _).mono ?_
    rintro e w3 ⟨rfl, hb3⟩
    rw [C1.out, C2.out]
    go_wp2_with fail
    refine (sane_any _).mono ?_
    rintro e w4 ⟨rfl, hb4⟩
    go_wp2
    go_ret
    have k3 := hb1.trans (hb3.mono hb1.size)
    exact ⟨rfl, k3.trans (hb4.mono k3.size)⟩
end Go.Proofs.Ythmjhndpcmpbkaa
