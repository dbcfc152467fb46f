import Derived.Test.YtkkmjjddalpocaaDoorRef2
namespace Go.Proofs.YtkkmjjddalpocaaDoor
open Go.RowKit
set_option linter.unusedVariables false
set_option linter.unusedSimpArgs false
set_option maxHeartbeats 2000000
theorem filled_any (m t : Int) (w : World) : Calls Tryd.prog 30 #[.int .i64 m, .int .i64 t] w (FillPost m t w) := by
  by_cases h : m < 0 ∨ 15 < m ∨ t < 0 ∨ 15 < t
  · exact filled_out m t w h
  · exact filled_in m t w (by omega) (by omega) (by omega) (by omega)
theorem rNew_ok (m t : Int) (w : World) (h : (rIn m t && rApart m t) = true) :
    Calls Tryd.prog 17 #[.int .i64 m, .int .i64 t] w fun e w' => ∃ b, e = .returned (.tuple #[.pointer (some ⟨b, 0, none⟩), .int .i64 0]) ∧ w.heap.size ≤ b ∧ Pt w' b RSide (fillR m t).cells ∧ Fr [] w w' := by
  have H := filled_any m t w
  unfold FillPost at H
  rw [h] at H
  go_enter Tryd.func17, Tryd.ntmps17
  go_wp2_with fail
  refine H.mono ?_
  clear H
  rintro e w1 ⟨rfl, hf⟩
  simp only [if_true, RS.val]
  obtain ⟨q, hq⟩ : ∃ q, fillR m t = q := ⟨_, rfl⟩
  rw [hq]
  have HQ := Lib.hid hq
  clear hq h
  obtain ⟨qm, q0, q1, q2, q3, r0, r1, r2, r3⟩ := q
  have hs := hf.size
  go_wp2
  go_ret2
  exact ⟨_, rfl, hs, by rw [HQ.out]; exact Pt.newA _ _ _, hf.alloc _⟩
theorem rNew_bad (m t : Int) (w : World) (h : (rIn m t && rApart m t) = false) :
    Calls Tryd.prog 17 #[.int .i64 m, .int .i64 t] w fun e w' => e = .returned (.tuple #[.pointer none, .int .i64 1]) ∧ Fr [] w w' := by
  have H := filled_any m t w
  unfold FillPost at H
  rw [h] at H
  go_enter Tryd.func17, Tryd.ntmps17
  go_wp2_with fail
  refine H.mono ?_
  clear H
  rintro e w1 ⟨rfl, hf⟩
  simp only [Bool.false_eq_true, if_false, RS.val, RS.zero]
  clear h
  go_wp2
  go_ret2
  exact ⟨rfl, hf.alloc _⟩
theorem rMine_any (b : Nat) (s : RS) (w : World) (hp : Pt w b RSide s.cells) : Calls Tryd.prog 33 #[.pointer (some ⟨b, 0, none⟩)] w fun e w' => e = .returned (.int .i64 (s.setV 1)) ∧ w = w' := by
  have H := Lib.hid (rset_any b s 1 w hp)
  clear hp
  go_enter Tryd.func33, Tryd.ntmps33
  go_wp2_with fail
  refine H.out.mono ?_
  rintro e w1 ⟨rfl, rfl⟩
  go_wp2
  go_ret
  exact ⟨rfl, rfl⟩
theorem rTheirs_any (b : Nat) (s : RS) (w : World) (hp : Pt w b RSide s.cells) : Calls Tryd.prog 34 #[.pointer (some ⟨b, 0, none⟩)] w fun e w' => e = .returned (.int .i64 (s.setV 2)) ∧ w = w' := by
  have H := Lib.hid (rset_any b s 2 w hp)
  clear hp
  go_enter Tryd.func34, Tryd.ntmps34
  go_wp2_with fail
  refine H.out.mono ?_
  rintro e w1 ⟨rfl, rfl⟩
  go_wp2
  go_ret
  exact ⟨rfl, rfl⟩
def RS.getH (s : RS) (t : Int) : Int := if t = 0 then s.h0 else if t = 1 then s.h1 else if t = 2 then s.h2 else s.h3
def RS.getA (s : RS) (t : Int) : Int := if t = 0 then s.a0 else if t = 1 then s.a1 else if t = 2 then s.a2 else s.a3
def raskedP (s : RS) (t : Int) : Int × Int := if t < 0 ∨ 3 < t then (0, 1) else if s.getH t = 1 then (s.getA t, 0) else (0, 8)
theorem rAsked_any (b : Nat) (s : RS) (t : Int) (w : World) (hp : Pt w b RSide s.cells) (hm : s.made = true) : Calls Tryd.prog 35 #[.pointer (some ⟨b, 0, none⟩), .int .i64 t] w fun e w' => e = .returned (.tuple #[.int .i64 (raskedP s t).1, .int .i64 (raskedP s t).2]) ∧ w = w' := by
  obtain ⟨sm, h0, h1, h2, h3, a0, a1, a2, a3⟩ := s
  dsimp only at hm
  subst hm
  have hc := hp.cell
  simp only [RS.cells] at hc
  clear hp
  by_cases ht : t < 0
  · have e1 : raskedP ⟨true, h0, h1, h2, h3, a0, a1, a2, a3⟩ t = (0, 1) := by unfold raskedP; rw [if_pos (.inl ht)]
    rw [e1]
    go_enter Tryd.func35, Tryd.ntmps35
    go_wp2
    go_ret2
    exact ⟨rfl, rfl⟩
  · by_cases ht3 : 3 < t
    · have e1 : raskedP ⟨true, h0, h1, h2, h3, a0, a1, a2, a3⟩ t = (0, 1) := by unfold raskedP; rw [if_pos (.inr ht3)]
      rw [e1]
      go_enter Tryd.func35, Tryd.ntmps35
      go_wp2
      go_ret2
      exact ⟨rfl, rfl⟩
    · have hk : t = 0 ∨ t = 1 ∨ t = 2 ∨ t = 3 := by omega
      clear ht ht3
      rcases hk with rfl | rfl | rfl | rfl
      · by_cases hh : h0 = 1
        · have e1 : raskedP ⟨true, h0, h1, h2, h3, a0, a1, a2, a3⟩ 0 = (a0, 0) := by simp [raskedP, RS.getH, RS.getA, hh]
          rw [e1]
          have hn : (h0 != 1) = false := by simpa using hh
          clear e1 hh
          go_enter Tryd.func35, Tryd.ntmps35
          go_wp2
          go_ret2
          exact ⟨rfl, rfl⟩
        · have e1 : raskedP ⟨true, h0, h1, h2, h3, a0, a1, a2, a3⟩ 0 = (0, 8) := by simp [raskedP, RS.getH, RS.getA, hh]
          rw [e1]
          have hn : (h0 != 1) = true := by simpa using hh
          clear e1 hh
          go_enter Tryd.func35, Tryd.ntmps35
          go_wp2
          go_ret2
          exact ⟨rfl, rfl⟩
      · by_cases hh : h1 = 1
        · have e1 : raskedP ⟨true, h0, h1, h2, h3, a0, a1, a2, a3⟩ 1 = (a1, 0) := by simp [raskedP, RS.getH, RS.getA, hh]
          rw [e1]
          have hn : (h1 != 1) = false := by simpa using hh
          clear e1 hh
          go_enter Tryd.func35, Tryd.ntmps35
          go_wp2
          go_ret2
          exact ⟨rfl, rfl⟩
        · have e1 : raskedP ⟨true, h0, h1, h2, h3, a0, a1, a2, a3⟩ 1 = (0, 8) := by simp [raskedP, RS.getH, RS.getA, hh]
          rw [e1]
          have hn : (h1 != 1) = true := by simpa using hh
          clear e1 hh
          go_enter Tryd.func35, Tryd.ntmps35
          go_wp2
          go_ret2
          exact ⟨rfl, rfl⟩
      · by_cases hh : h2 = 1
        · have e1 : raskedP ⟨true, h0, h1, h2, h3, a0, a1, a2, a3⟩ 2 = (a2, 0) := by simp [raskedP, RS.getH, RS.getA, hh]
          rw [e1]
          have hn : (h2 != 1) = false := by simpa using hh
          clear e1 hh
          go_enter Tryd.func35, Tryd.ntmps35
          go_wp2
          go_ret2
          exact ⟨rfl, rfl⟩
        · have e1 : raskedP ⟨true, h0, h1, h2, h3, a0, a1, a2, a3⟩ 2 = (0, 8) := by simp [raskedP, RS.getH, RS.getA, hh]
          rw [e1]
          have hn : (h2 != 1) = true := by simpa using hh
          clear e1 hh
          go_enter Tryd.func35, Tryd.ntmps35
          go_wp2
          go_ret2
          exact ⟨rfl, rfl⟩
      · by_cases hh : h3 = 1
        · have e1 : raskedP ⟨true, h0, h1, h2, h3, a0, a1, a2, a3⟩ 3 = (a3, 0) := by simp [raskedP, RS.getH, RS.getA, hh]
          rw [e1]
          have hn : (h3 != 1) = false := by simpa using hh
          clear e1 hh
          go_enter Tryd.func35, Tryd.ntmps35
          go_wp2
          go_ret2
          exact ⟨rfl, rfl⟩
        · have e1 : raskedP ⟨true, h0, h1, h2, h3, a0, a1, a2, a3⟩ 3 = (0, 8) := by simp [raskedP, RS.getH, RS.getA, hh]
          rw [e1]
          have hn : (h3 != 1) = true := by simpa using hh
          clear e1 hh
          go_enter Tryd.func35, Tryd.ntmps35
          go_wp2
          go_ret2
          exact ⟨rfl, rfl⟩
def RS.no2 (s : RS) (n : Int) (k : Nat) : Bool := !(decide (0 < k) && inB n 0 && s.h0 == 2) && !(decide (1 < k) && inB n 1 && s.h1 == 2) && !(decide (2 < k) && inB n 2 && s.h2 == 2) && !(decide (3 < k) && inB n 3 && s.h3 == 2)
def RS.some1 (s : RS) (n : Int) (k : Nat) : Bool := n == 0 || (decide (0 < k) && inB n 0 && s.h0 == 1) || (decide (1 < k) && inB n 1 && s.h1 == 1) || (decide (2 < k) && inB n 2 && s.h2 == 1) || (decide (3 < k) && inB n 3 && s.h3 == 1)
def rmayP (s : RS) (n : Int) : Bool := decide (0 ≤ n) && decide (n ≤ 15) && s.no2 n 4 && s.some1 n 4
set_option maxHeartbeats 8000000 in
theorem rMay_any (b : Nat) (s : RS) (n : Int) (w : World) (hp : Pt w b RSide s.cells) (hm : s.made = true) : Calls Tryd.prog 36 #[.pointer (some ⟨b, 0, none⟩), .int .i64 n] w fun e w' => e = .returned (.bool (rmayP s n)) ∧ w = w' := by
  have hc := hp.cell
  simp only [RS.cells, hm] at hc
  clear hp hm
  by_cases h0 : n < 0
  · go_enter Tryd.func36, Tryd.ntmps36
    go_wp2
    go_ret
    exact ⟨ret_bool (by unfold rmayP; rw [decide_eq_false (show ¬ 0 ≤ n by omega)]; simp), rfl⟩
  · by_cases h1 : 15 < n
    · go_enter Tryd.func36, Tryd.ntmps36
      go_wp2
      go_ret
      exact ⟨ret_bool (by unfold rmayP; rw [decide_eq_false (show ¬ n ≤ 15 by omega)]; simp), rfl⟩
    · have n0 : 0 ≤ n := by omega
      have n1 : n ≤ 15 := by omega
      clear h0 h1
      go_enter Tryd.func36, Tryd.ntmps36
      go_wp2
      go_loop [5, 6] (fun v i => ∃ (k : Nat) (c : Bool), k ≤ 4 ∧ i = .int .i64 k ∧ v = .bool c ∧ Hid (c = s.some1 n k ∧ s.no2 n k = true)) (fun _ i => 4 - (intOf i).toNat)
      case atStart => exact ⟨0, n == 0, by omega, rfl, rfl, by unfold Hid; simp [RS.some1, RS.no2]⟩
      case round =>
        obtain ⟨k, c, hk0, rfl, rfl, HC⟩ := hrel
        have hk : k = 0 ∨ k = 1 ∨ k = 2 ∨ k = 3 ∨ k = 4 := by omega
        clear hk0
        rcases hk with rfl | rfl | rfl | rfl | rfl
        · have HI := Lib.hid (in_any n 0 w n0 n1 (by omega))
          rcases hq : inB n 0 with _ | _
          · have HC' : Hid (c = s.some1 n 1 ∧ s.no2 n 1 = true) := by have := HC.out; unfold Hid; simp_all [RS.some1, RS.no2]
            rw [hq] at HI
            rcases c with _ | _
            all_goals
              go_wp2_with (go_at_call 41; refine HI.out.mono ?_; rintro e w' ⟨rfl, rfl⟩)
              go_round
              case rel => exact ⟨1, _, by omega, rfl, rfl, HC'⟩
              case measure => simp [intOf]
          · rw [hq] at HI
            rcases h2 : (s.h0 == 2) with _ | _
            · rcases h1 : (s.h0 == 1) with _ | _
              · have HC' : Hid (c = s.some1 n 1 ∧ s.no2 n 1 = true) := by have := HC.out; unfold Hid; simp_all [RS.some1, RS.no2]
                rcases c with _ | _
                all_goals
                  go_wp2_with (go_at_call 41; refine HI.out.mono ?_; rintro e w' ⟨rfl, rfl⟩)
                  go_round
                  case rel => exact ⟨1, _, by omega, rfl, rfl, HC'⟩
                  case measure => simp [intOf]
              · have HC' : Hid (true = s.some1 n 1 ∧ s.no2 n 1 = true) := by have := HC.out; unfold Hid; simp_all [RS.some1, RS.no2]
                rcases c with _ | _
                all_goals
                  go_wp2_with (go_at_call 41; refine HI.out.mono ?_; rintro e w' ⟨rfl, rfl⟩)
                  go_round
                  case rel => exact ⟨1, _, by omega, rfl, rfl, HC'⟩
                  case measure => simp [intOf]
            · have HN : Hid (rmayP s n = false) := by unfold Hid; simp [rmayP, RS.no2, hq, h2]
              clear HC
              go_wp2_with (go_at_call 41; refine HI.out.mono ?_; rintro e w' ⟨rfl, rfl⟩)
              go_ret
              exact ⟨ret_bool HN.out.symm, rfl⟩
        · have HI := Lib.hid (in_any n 1 w n0 n1 (by omega))
          rcases hq : inB n 1 with _ | _
          · have HC' : Hid (c = s.some1 n 2 ∧ s.no2 n 2 = true) := by have := HC.out; unfold Hid; simp_all [RS.some1, RS.no2]
            rw [hq] at HI
            rcases c with _ | _
            all_goals
              go_wp2_with (go_at_call 41; refine HI.out.mono ?_; rintro e w' ⟨rfl, rfl⟩)
              go_round
              case rel => exact ⟨2, _, by omega, rfl, rfl, HC'⟩
              case measure => simp [intOf]
          · rw [hq] at HI
            rcases h2 : (s.h1 == 2) with _ | _
            · rcases h1 : (s.h1 == 1) with _ | _
              · have HC' : Hid (c = s.some1 n 2 ∧ s.no2 n 2 = true) := by have := HC.out; unfold Hid; simp_all [RS.some1, RS.no2]
                rcases c with _ | _
                all_goals
                  go_wp2_with (go_at_call 41; refine HI.out.mono ?_; rintro e w' ⟨rfl, rfl⟩)
                  go_round
                  case rel => exact ⟨2, _, by omega, rfl, rfl, HC'⟩
                  case measure => simp [intOf]
              · have HC' : Hid (true = s.some1 n 2 ∧ s.no2 n 2 = true) := by have := HC.out; unfold Hid; simp_all [RS.some1, RS.no2]
                rcases c with _ | _
                all_goals
                  go_wp2_with (go_at_call 41; refine HI.out.mono ?_; rintro e w' ⟨rfl, rfl⟩)
                  go_round
                  case rel => exact ⟨2, _, by omega, rfl, rfl, HC'⟩
                  case measure => simp [intOf]
            · have HN : Hid (rmayP s n = false) := by unfold Hid; simp [rmayP, RS.no2, hq, h2]
              clear HC
              go_wp2_with (go_at_call 41; refine HI.out.mono ?_; rintro e w' ⟨rfl, rfl⟩)
              go_ret
              exact ⟨ret_bool HN.out.symm, rfl⟩
        · have HI := Lib.hid (in_any n 2 w n0 n1 (by omega))
          rcases hq : inB n 2 with _ | _
          · have HC' : Hid (c = s.some1 n 3 ∧ s.no2 n 3 = true) := by have := HC.out; unfold Hid; simp_all [RS.some1, RS.no2]
            rw [hq] at HI
            rcases c with _ | _
            all_goals
              go_wp2_with (go_at_call 41; refine HI.out.mono ?_; rintro e w' ⟨rfl, rfl⟩)
              go_round
              case rel => exact ⟨3, _, by omega, rfl, rfl, HC'⟩
              case measure => simp [intOf]
          · rw [hq] at HI
            rcases h2 : (s.h2 == 2) with _ | _
            · rcases h1 : (s.h2 == 1) with _ | _
              · have HC' : Hid (c = s.some1 n 3 ∧ s.no2 n 3 = true) := by have := HC.out; unfold Hid; simp_all [RS.some1, RS.no2]
                rcases c with _ | _
                all_goals
                  go_wp2_with (go_at_call 41; refine HI.out.mono ?_; rintro e w' ⟨rfl, rfl⟩)
                  go_round
                  case rel => exact ⟨3, _, by omega, rfl, rfl, HC'⟩
                  case measure => simp [intOf]
              · have HC' : Hid (true = s.some1 n 3 ∧ s.no2 n 3 = true) := by have := HC.out; unfold Hid; simp_all [RS.some1, RS.no2]
                rcases c with _ | _
                all_goals
                  go_wp2_with (go_at_call 41; refine HI.out.mono ?_; rintro e w' ⟨rfl, rfl⟩)
                  go_round
                  case rel => exact ⟨3, _, by omega, rfl, rfl, HC'⟩
                  case measure => simp [intOf]
            · have HN : Hid (rmayP s n = false) := by unfold Hid; simp [rmayP, RS.no2, hq, h2]
              clear HC
              go_wp2_with (go_at_call 41; refine HI.out.mono ?_; rintro e w' ⟨rfl, rfl⟩)
              go_ret
              exact ⟨ret_bool HN.out.symm, rfl⟩
        · have HI := Lib.hid (in_any n 3 w n0 n1 (by omega))
          rcases hq : inB n 3 with _ | _
          · have HC' : Hid (c = s.some1 n 4 ∧ s.no2 n 4 = true) := by have := HC.out; unfold Hid; simp_all [RS.some1, RS.no2]
            rw [hq] at HI
            rcases c with _ | _
            all_goals
              go_wp2_with (go_at_call 41; refine HI.out.mono ?_; rintro e w' ⟨rfl, rfl⟩)
              go_round
              case rel => exact ⟨4, _, by omega, rfl, rfl, HC'⟩
              case measure => simp [intOf]
          · rw [hq] at HI
            rcases h2 : (s.h3 == 2) with _ | _
            · rcases h1 : (s.h3 == 1) with _ | _
              · have HC' : Hid (c = s.some1 n 4 ∧ s.no2 n 4 = true) := by have := HC.out; unfold Hid; simp_all [RS.some1, RS.no2]
                rcases c with _ | _
                all_goals
                  go_wp2_with (go_at_call 41; refine HI.out.mono ?_; rintro e w' ⟨rfl, rfl⟩)
                  go_round
                  case rel => exact ⟨4, _, by omega, rfl, rfl, HC'⟩
                  case measure => simp [intOf]
              · have HC' : Hid (true = s.some1 n 4 ∧ s.no2 n 4 = true) := by have := HC.out; unfold Hid; simp_all [RS.some1, RS.no2]
                rcases c with _ | _
                all_goals
                  go_wp2_with (go_at_call 41; refine HI.out.mono ?_; rintro e w' ⟨rfl, rfl⟩)
                  go_round
                  case rel => exact ⟨4, _, by omega, rfl, rfl, HC'⟩
                  case measure => simp [intOf]
            · have HN : Hid (rmayP s n = false) := by unfold Hid; simp [rmayP, RS.no2, hq, h2]
              clear HC
              go_wp2_with (go_at_call 41; refine HI.out.mono ?_; rintro e w' ⟨rfl, rfl⟩)
              go_ret
              exact ⟨ret_bool HN.out.symm, rfl⟩
        · have HN : Hid (rmayP s n = c) := by have := HC.out; unfold Hid; simp [rmayP, n0, n1, this]
          clear HC
          go_wp2
          go_ret
          exact ⟨ret_bool HN.out.symm, rfl⟩
end Go.Proofs.YtkkmjjddalpocaaDoor
