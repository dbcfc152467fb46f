import Derived.Test.YtehmfnpiidcbpaaGR7
namespace Go.Proofs.Ytehmfnpiidcbpaa
open Go.RowKit
set_option linter.unusedVariables false
set_option linter.unusedSimpArgs false
set_option maxHeartbeats 16000000
set_option maxRecDepth 100000
/-! ### Hull, a copy -/
def hullF (l : List (Int × Int)) : Int × Int × Int := if h : valS l = true then (if h2 : 0 < l.length then (l[0].1, (l[l.length - 1]'(by omega)).2, 0) else (0, 0, 3)) else (0, 0, 1)
theorem hullF_no {l : List (Int × Int)} (h : valS l = false) : hullF l = (0, 0, 1) := by unfold hullF; rw [dif_neg (by rw [h]; decide)]
theorem hullF_nil (h : valS [] = true) : hullF [] = (0, 0, 3) := by unfold hullF; rw [dif_pos h, dif_neg (by simp)]
theorem hullF_ok {l : List (Int × Int)} (h : valS l = true) (h2 : 0 < l.length) : hullF l = (l[0].1, (l[l.length - 1]'(by omega)).2, 0) := by unfold hullF; rw [dif_pos h, dif_pos h2]
theorem Hull_any (v : Value) (l : List (Int × Int)) (w : World) (h : PIn w v l) (hn : l.length ≤ 9223372036854775807) :
    Calls Try.prog 21 #[v] w fun e w' => e = .returned (.tuple #[.int .i64 (hullF l).1, .int .i64 (hullF l).2.1, .int .i64 (hullF l).2.2]) ∧ Fr [] w w' := by
  have V1 := valid_any v l w h hn
  obtain ⟨V, hV⟩ : ∃ V, valS l = V := ⟨_, rfl⟩
  rw [hV] at V1
  cases V
  · rw [hullF_no hV]
    replace h := Lib.hid h; replace V1 := Lib.hid V1; replace hV := Lib.hid hV
    go_enter Try.func21, Try.ntmps21
    go_wp2_with fail
    refine (V1.out).mono ?_
    rintro e w1 ⟨rfl, f1⟩
    replace f1 := Lib.hid f1
    go_wp2_with fail
    go_ret3
    exact ⟨rfl, f1.out⟩
  · obtain ⟨o, cap, rfl, hl⟩ := h
    obtain ⟨N, hN⟩ : ∃ N, l.length = N := ⟨_, rfl⟩
    by_cases h0 : N = 0
    · subst h0
      obtain rfl : l = [] := List.eq_nil_of_length_eq_zero hN
      rw [hullF_nil hV]
      rw [hN] at V1 ⊢
      replace hl := Lib.hid hl; replace V1 := Lib.hid V1; replace hV := Lib.hid hV; replace hN := Lib.hid hN
      go_enter Try.func21, Try.ntmps21
      go_wp2_with fail
      refine (V1.out).mono ?_
      rintro e w1 ⟨rfl, f1⟩
      replace f1 := Lib.hid f1
      go_wp2_with fail
      go_ret3
      exact ⟨rfl, f1.out⟩
    · have hlt : 0 < l.length := by omega
      rw [hullF_ok hV hlt]
      have hb : l.length ≤ 100 := (valS_iff l |>.1 hV).2.2
      obtain ⟨m, hm⟩ : ∃ m, l.length - 1 = m := ⟨_, rfl⟩
      have hml : m < l.length := by omega
      have e2 : l[l.length - 1]'(by omega) = l[m] := by congr 1
      rw [e2]
      obtain ⟨B, off, rfl, hB, a1, _⟩ := hl 0 hlt
      obtain ⟨B', off', e, _, _, a2⟩ := hl m hml
      cases e
      obtain ⟨p, hp⟩ : ∃ p, l[0].1 = p := ⟨_, rfl⟩
      obtain ⟨q, hq⟩ : ∃ q, l[m].2 = q := ⟨_, rfl⟩
      rw [hp] at a1 ⊢
      rw [hq] at a2 ⊢
      rw [hN] at V1 hm hml hlt hb ⊢
      simp only [Nat.zero_mul, Nat.add_zero] at a1
      have c1 : ∀ W, Fr [] w W → W.cell? ⟨B, off, none⟩ = some (.int .i64 p) ∧ W.cell? ⟨B, off + m * 2 + 1, none⟩ = some (.int .i64 q) := fun W f => ⟨by rw [f.cell (p := ⟨B, off, none⟩) hB (by simp)]; exact a1, by rw [f.cell (p := ⟨B, off + m * 2 + 1, none⟩) hB (by simp)]; exact a2⟩
      have d1 : ((N : Int) == 0) = false := by simp; omega
      have d2 : (N == 0) = false := by simpa using h0
      have d3 : (N : Int) - 1 = (m : Int) := by omega
      have d4 : (m : Int) < (N : Int) := by omega
      have d5 : IntKind.i64.wrap (m : Int) = (m : Int) := IntWalk.i64_in _ (by omega)
      have d6 : (0 : Int) < (N : Int) := by omega
      clear a1 a2 e2
      replace hl := Lib.hid hl; replace V1 := Lib.hid V1; replace hV := Lib.hid hV; replace hN := Lib.hid hN; replace hm := Lib.hid hm; replace c1 := Lib.hid c1; replace hp := Lib.hid hp; replace hq := Lib.hid hq
      clear h0
      go_enter Try.func21, Try.ntmps21
      go_wp2_with fail
      refine (V1.out).mono ?_
      rintro e w1 ⟨rfl, f1⟩
      obtain ⟨x1, x2⟩ := c1.out w1 f1
      replace f1 := Lib.hid f1
      go_wp2_with fail
      go_quiet (fail)
      go_wp2_with fail
      go_ret3
      exact ⟨rfl, f1.out.drewN _⟩
theorem rHull_any (v : Value) (l : List (Int × Int)) (w : World) (h : PIn w v l) (hn : l.length ≤ 9223372036854775807) :
    Calls Try.prog 22 #[v] w fun e w' => e = .returned (.tuple #[.int .i64 (hullF l).1, .int .i64 (hullF l).2.1, .int .i64 (hullF l).2.2]) ∧ Fr [] w w' := by
  have V1 := rvalid_any v l w h hn
  obtain ⟨V, hV⟩ : ∃ V, valS l = V := ⟨_, rfl⟩
  rw [hV] at V1
  cases V
  · rw [hullF_no hV]
    replace h := Lib.hid h; replace V1 := Lib.hid V1; replace hV := Lib.hid hV
    go_enter Try.func22, Try.ntmps22
    go_wp2_with fail
    refine (V1.out).mono ?_
    rintro e w1 ⟨rfl, f1⟩
    replace f1 := Lib.hid f1
    go_wp2_with fail
    go_ret3
    exact ⟨rfl, f1.out⟩
  · obtain ⟨o, cap, rfl, hl⟩ := h
    obtain ⟨N, hN⟩ : ∃ N, l.length = N := ⟨_, rfl⟩
    by_cases h0 : N = 0
    · subst h0
      obtain rfl : l = [] := List.eq_nil_of_length_eq_zero hN
      rw [hullF_nil hV]
      rw [hN] at V1 ⊢
      replace hl := Lib.hid hl; replace V1 := Lib.hid V1; replace hV := Lib.hid hV; replace hN := Lib.hid hN
      go_enter Try.func22, Try.ntmps22
      go_wp2_with fail
      refine (V1.out).mono ?_
      rintro e w1 ⟨rfl, f1⟩
      replace f1 := Lib.hid f1
      go_wp2_with fail
      go_ret3
      exact ⟨rfl, f1.out⟩
    · have hlt : 0 < l.length := by omega
      rw [hullF_ok hV hlt]
      have hb : l.length ≤ 100 := (valS_iff l |>.1 hV).2.2
      obtain ⟨m, hm⟩ : ∃ m, l.length - 1 = m := ⟨_, rfl⟩
      have hml : m < l.length := by omega
      have e2 : l[l.length - 1]'(by omega) = l[m] := by congr 1
      rw [e2]
      obtain ⟨B, off, rfl, hB, a1, _⟩ := hl 0 hlt
      obtain ⟨B', off', e, _, _, a2⟩ := hl m hml
      cases e
      obtain ⟨p, hp⟩ : ∃ p, l[0].1 = p := ⟨_, rfl⟩
      obtain ⟨q, hq⟩ : ∃ q, l[m].2 = q := ⟨_, rfl⟩
      rw [hp] at a1 ⊢
      rw [hq] at a2 ⊢
      rw [hN] at V1 hm hml hlt hb ⊢
      simp only [Nat.zero_mul, Nat.add_zero] at a1
      have c1 : ∀ W, Fr [] w W → W.cell? ⟨B, off, none⟩ = some (.int .i64 p) ∧ W.cell? ⟨B, off + m * 2 + 1, none⟩ = some (.int .i64 q) := fun W f => ⟨by rw [f.cell (p := ⟨B, off, none⟩) hB (by simp)]; exact a1, by rw [f.cell (p := ⟨B, off + m * 2 + 1, none⟩) hB (by simp)]; exact a2⟩
      have d1 : ((N : Int) == 0) = false := by simp; omega
      have d2 : (N == 0) = false := by simpa using h0
      have d3 : (N : Int) - 1 = (m : Int) := by omega
      have d4 : (m : Int) < (N : Int) := by omega
      have d5 : IntKind.i64.wrap (m : Int) = (m : Int) := IntWalk.i64_in _ (by omega)
      have d6 : (0 : Int) < (N : Int) := by omega
      clear a1 a2 e2
      replace hl := Lib.hid hl; replace V1 := Lib.hid V1; replace hV := Lib.hid hV; replace hN := Lib.hid hN; replace hm := Lib.hid hm; replace c1 := Lib.hid c1; replace hp := Lib.hid hp; replace hq := Lib.hid hq
      clear h0
      go_enter Try.func22, Try.ntmps22
      go_wp2_with fail
      refine (V1.out).mono ?_
      rintro e w1 ⟨rfl, f1⟩
      obtain ⟨x1, x2⟩ := c1.out w1 f1
      replace f1 := Lib.hid f1
      go_wp2_with fail
      go_quiet (fail)
      go_wp2_with fail
      go_ret3
      exact ⟨rfl, f1.out.drewN _⟩
theorem copy_any (v : Value) (l : List (Int × Int)) (w : World) (h : PIn w v l) (hn : l.length ≤ 900000) :
    Calls Try.prog 16 #[v] w fun e w' => ∃ v', e = .returned v' ∧ PIn w' v' l ∧ Fr [] w w' := by
  obtain ⟨w1, hw1⟩ : ∃ x, w.alloc (.cells #[] 51) = x := ⟨_, rfl⟩
  have P1 := Pt.newA w 51 #[]
  rw [hw1] at P1
  have F1 : Fr [] w w1 := by rw [← hw1]; exact (Fr.refl [] w).alloc _
  obtain ⟨b1, hb1⟩ : ∃ x, w.heap.size = x := ⟨_, rfl⟩
  rw [hb1] at P1
  obtain ⟨v', w9, bo', happ, r9, n9, f9⟩ := (Row.nil 2 w1 (some ⟨b1, 0, none⟩)).appN (l := []) (by simp) (h.fr F1) (by omega)
  have GO : PIn w9 v' l ∧ Fr [] w w9 := ⟨by have := r9.pinP; simpa using this, F1.trans (by simpa using f9)⟩
  replace h := Lib.hid h; replace P1 := Lib.hid P1; replace F1 := Lib.hid F1; replace happ := Lib.hid happ; replace r9 := Lib.hid r9; replace n9 := Lib.hid n9; replace f9 := Lib.hid f9; replace GO := Lib.hid GO
  go_enter Try.func16, Try.ntmps16
  go_wp2_with (first | (at_builtin; refine wpList_append_run _ rfl _ _ _ rfl rfl rfl happ.out ?_))
  go_ret
  exact ⟨_, rfl, GO.out⟩
end Go.Proofs.Ytehmfnpiidcbpaa
