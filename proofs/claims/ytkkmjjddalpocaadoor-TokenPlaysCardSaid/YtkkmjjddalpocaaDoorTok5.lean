import Derived.Test.YtkkmjjddalpocaaDoorTok4
namespace Go.Proofs.YtkkmjjddalpocaaDoor
open Go.RowKit
set_option linter.unusedVariables false
set_option maxHeartbeats 800000
def setOk (m t : Int) : Bool := decide (0 ≤ m) && decide (m ≤ 15) && decide (0 ≤ t) && decide (t ≤ 15) && (bits .and .i64 m t == 0)
theorem setOk_spec {m t : Int} (h : setOk m t = true) : 0 ≤ m ∧ m ≤ 15 ∧ 0 ≤ t ∧ t ≤ 15 ∧ (bits .and .i64 m t == 0) = true := by
  simpa [setOk, and_assoc] using h
theorem tSet_ok (b : Nat) (s : TS) (m t : Int) (w : World) (hp : Pt w b TSide s.cells) (hm : s.made = true) (h : setOk m t = true) :
    Calls Tryd.prog 20 #[.pointer (some ⟨b, 0, none⟩), .int .i64 m, .int .i64 t] w fun e w' => e = .returned (.int .i64 0) ∧ Pt w' b TSide (TS.cells ⟨true, m, t, -1, -1, -1, -1⟩) ∧ Fr [b] w w' := by
  obtain ⟨m0, m1, t0, t1, hz⟩ := setOk_spec h
  have hz' : (bits .and .i64 m t != 0) = false := by simpa using hz
  obtain ⟨smade, smine, stheirs, s0, s1, s2, s3⟩ := s
  dsimp only at hm
  subst hm
  have hc := hp.cell
  have hfz := hp.free
  have hN := tNone_any b _ w hp
  simp only [TS.cells] at hc
  have HN := Lib.hid hN
  have HP := Lib.hid hp
  clear hp h hN
  go_enter Tryd.func20, Tryd.ntmps20
  go_wp2_with fail
  refine HN.out.mono ?_
  rintro e w' ⟨rfl, rfl⟩
  go_wp2
  go_ret
  exact ⟨rfl, ((((((HP.out.set' rfl).set' rfl).set' rfl).set' rfl).set' rfl).set' rfl), ((((((Fr.refl [b] w).setCell (by simp) _).setCell (by simp) _).setCell (by simp) _).setCell (by simp) _).setCell (by simp) _).setCell (by simp) _⟩
theorem tSet_bad (b : Nat) (s : TS) (m t : Int) (w : World) (hp : Pt w b TSide s.cells) (h : s.made = false ∨ setOk m t = false) :
    Calls Tryd.prog 20 #[.pointer (some ⟨b, 0, none⟩), .int .i64 m, .int .i64 t] w fun e w' => e = .returned (.int .i64 1) ∧ w = w' := by
  have hN := tNone_any b _ w hp
  have HN := Lib.hid hN
  clear hN hp
  by_cases hm : s.made = true
  · have h : setOk m t = false := h.resolve_left (by simp [hm])
    have key : m < 0 ∨ 15 < m ∨ t < 0 ∨ 15 < t ∨ (bits .and .i64 m t != 0) = true := by
      by_cases h1 : m < 0; exact .inl h1
      by_cases h2 : 15 < m; exact .inr (.inl h2)
      by_cases h3 : t < 0; exact .inr (.inr (.inl h3))
      by_cases h4 : 15 < t; exact .inr (.inr (.inr (.inl h4)))
      refine .inr (.inr (.inr (.inr ?_)))
      unfold setOk at h
      rw [decide_eq_true (by omega), decide_eq_true (by omega), decide_eq_true (by omega), decide_eq_true (by omega)] at h
      simpa using h
    clear h
    go_enter Tryd.func20, Tryd.ntmps20
    go_wp2_with fail
    refine HN.out.mono ?_
    rintro e w' ⟨rfl, rfl⟩
    rw [hm]
    rcases key with h | h | h | h | h
    all_goals
      go_wp2
      all_goals
        go_ret
        exact ⟨rfl, rfl⟩
  · rw [Bool.not_eq_true] at hm
    clear h
    go_enter Tryd.func20, Tryd.ntmps20
    go_wp2_with fail
    refine HN.out.mono ?_
    rintro e w' ⟨rfl, rfl⟩
    rw [hm]
    go_wp2
    go_ret
    exact ⟨rfl, rfl⟩
theorem tNew_ok (m t : Int) (w : World) (h : setOk m t = true) :
    Calls Tryd.prog 10 #[.int .i64 m, .int .i64 t] w fun e w' => e = .returned (.tuple #[.pointer (some ⟨w.heap.size, 0, none⟩), .int .i64 0]) ∧ Pt w' w.heap.size TSide (TS.cells ⟨true, m, t, -1, -1, -1, -1⟩) ∧ Fr [] w w' := by
  go_enter Tryd.func10, Tryd.ntmps10
  go_wp2_with fail
  refine (tSet_ok w.heap.size ⟨true, 0, 0, 0, 0, 0, 0⟩ m t _ (Pt.newA _ _ _) rfl h).mono ?_
  rintro e w1 ⟨rfl, hp, hf⟩
  go_wp2
  go_ret2
  exact ⟨rfl, hp, ((Fr.refl [] w).alloc _).step hf (by simp)⟩
theorem tNew_bad (m t : Int) (w : World) (h : setOk m t = false) :
    Calls Tryd.prog 10 #[.int .i64 m, .int .i64 t] w fun e w' => e = .returned (.tuple #[.pointer none, .int .i64 1]) ∧ Fr [] w w' := by
  go_enter Tryd.func10, Tryd.ntmps10
  go_wp2_with fail
  refine (tSet_bad w.heap.size ⟨true, 0, 0, 0, 0, 0, 0⟩ m t _ (Pt.newA _ _ _) (.inr h)).mono ?_
  rintro e w1 ⟨rfl, rfl⟩
  go_wp2
  go_ret2
  exact ⟨rfl, (Fr.refl [] w).alloc _⟩
theorem tMine_any (b : Nat) (s : TS) (w : World) (hp : Pt w b TSide s.cells) : Calls Tryd.prog 15 #[.pointer (some ⟨b, 0, none⟩)] w fun e w' => e = .returned (.int .i64 (if s.made then s.mine else 0)) ∧ w = w' := by
  have HN := Lib.hid (tNone_any b _ w hp)
  obtain ⟨smade, smine, stheirs, s0, s1, s2, s3⟩ := s
  have hc := hp.cell
  simp only [TS.cells] at hc
  clear hp
  cases smade
  all_goals
    go_enter Tryd.func15, Tryd.ntmps15
    go_wp2_with fail
    refine HN.out.mono ?_
    rintro e w' ⟨rfl, rfl⟩
    go_wp2
    go_ret
    exact ⟨rfl, rfl⟩
theorem tTheirs_any (b : Nat) (s : TS) (w : World) (hp : Pt w b TSide s.cells) : Calls Tryd.prog 16 #[.pointer (some ⟨b, 0, none⟩)] w fun e w' => e = .returned (.int .i64 (if s.made then s.theirs else 0)) ∧ w = w' := by
  have HN := Lib.hid (tNone_any b _ w hp)
  obtain ⟨smade, smine, stheirs, s0, s1, s2, s3⟩ := s
  have hc := hp.cell
  simp only [TS.cells] at hc
  clear hp
  cases smade
  all_goals
    go_enter Tryd.func16, Tryd.ntmps16
    go_wp2_with fail
    refine HN.out.mono ?_
    rintro e w' ⟨rfl, rfl⟩
    go_wp2
    go_ret
    exact ⟨rfl, rfl⟩
theorem tCopy_any (b : Nat) (s : TS) (w : World) (hp : Pt w b TSide s.cells) (hm : s.made = true) : Calls Tryd.prog 12 #[.pointer (some ⟨b, 0, none⟩)] w fun e w' => e = .returned (.pointer (some ⟨w.heap.size, 0, none⟩)) ∧ Pt w' w.heap.size TSide s.cells ∧ Fr [] w w' := by
  have HN := Lib.hid (tNone_any b _ w hp)
  have hlt := hp.lt
  obtain ⟨smade, smine, stheirs, s0, s1, s2, s3⟩ := s
  dsimp only at hm
  subst hm
  have hc := hp.cell
  simp only [TS.cells] at hc
  clear hp
  go_enter Tryd.func12, Tryd.ntmps12
  go_wp2_with fail
  refine HN.out.mono ?_
  rintro e w' ⟨rfl, rfl⟩
  go_wp2
  go_ret
  exact ⟨rfl, Pt.newA _ _ _, (Fr.refl [] w).alloc _⟩
def mayP (s : TS) (n : Int) : Bool := s.made && decide (0 ≤ n) && decide (n ≤ 15) && (n == 0 || (bits .and .i64 n (bits .or .i64 s.mine s.theirs) != 0 && bits .and .i64 s.mine (bits .and .i64 n (bits .or .i64 s.mine s.theirs)) == bits .and .i64 n (bits .or .i64 s.mine s.theirs)))
theorem tMay_any (b : Nat) (s : TS) (n : Int) (w : World) (hp : Pt w b TSide s.cells) : Calls Tryd.prog 22 #[.pointer (some ⟨b, 0, none⟩), .int .i64 n] w fun e w' => e = .returned (.bool (mayP s n)) ∧ ∃ k, w' = w.drewN k := by
  have HN := Lib.hid (tNone_any b _ w hp)
  obtain ⟨smade, smine, stheirs, s0, s1, s2, s3⟩ := s
  have hc := hp.cell
  simp only [TS.cells] at hc
  clear hp
  cases smade
  · go_enter Tryd.func22, Tryd.ntmps22
    go_wp2_with fail
    refine HN.out.mono ?_
    rintro e w' ⟨rfl, rfl⟩
    go_wp2
    go_ret
    exact ⟨ret_bool (by simp [mayP]), 0, rfl⟩
  · by_cases h0 : n < 0
    · go_enter Tryd.func22, Tryd.ntmps22
      go_wp2_with fail
      refine HN.out.mono ?_
      rintro e w' ⟨rfl, rfl⟩
      go_wp2
      go_ret
      exact ⟨ret_bool (by unfold mayP; rw [decide_eq_false (show ¬ 0 ≤ n by omega)]; simp), 0, rfl⟩
    · by_cases h1 : 15 < n
      · go_enter Tryd.func22, Tryd.ntmps22
        go_wp2_with fail
        refine HN.out.mono ?_
        rintro e w' ⟨rfl, rfl⟩
        go_wp2
        go_ret
        exact ⟨ret_bool (by unfold mayP; rw [decide_eq_false (show ¬ n ≤ 15 by omega)]; simp), 0, rfl⟩
      · obtain ⟨u, hu⟩ : ∃ u, bits .and .i64 n (bits .or .i64 smine stheirs) = u := ⟨_, rfl⟩
        have hP : mayP ⟨true, smine, stheirs, s0, s1, s2, s3⟩ n = (n == 0 || (u != 0 && bits .and .i64 smine u == u)) := by
          unfold mayP
          dsimp only
          rw [hu, decide_eq_true (by omega), decide_eq_true (by omega)]; rfl
        have HPP := Lib.hid hP
        clear hP
        by_cases hn0 : n = 0
        · subst hn0
          go_enter Tryd.func22, Tryd.ntmps22
          go_wp2_with fail
          refine HN.out.mono ?_
          rintro e w' ⟨rfl, rfl⟩
          go_wp2_with fail
          go_quiet (fail)
          go_wp2
          go_ret
          exact ⟨ret_bool (by rw [HPP.out]; simp), _, rfl⟩
        · have hn1 : (n == 0) = false := by simpa using hn0
          by_cases hu0 : u = 0
          · have hu1 : (u != 0) = false := by simpa using hu0
            go_enter Tryd.func22, Tryd.ntmps22
            go_wp2_with fail
            refine HN.out.mono ?_
            rintro e w' ⟨rfl, rfl⟩
            go_wp2_with fail
            go_quiet (fail)
            clear hu0
            go_wp2
            go_ret
            exact ⟨ret_bool (by rw [HPP.out, hn1, hu1]; rfl), _, rfl⟩
          · have hu1 : (u != 0) = true := by simpa using hu0
            go_enter Tryd.func22, Tryd.ntmps22
            go_wp2_with fail
            refine HN.out.mono ?_
            rintro e w' ⟨rfl, rfl⟩
            go_wp2_with fail
            go_quiet (fail)
            go_wp2_with fail
            refine (tHas_any smine u _).mono ?_
            rintro e w' ⟨rfl, rfl⟩
            go_wp2
            go_ret
            exact ⟨ret_bool (by rw [HPP.out, hn1, hu1]; rfl), _, rfl⟩
end Go.Proofs.YtkkmjjddalpocaaDoor
