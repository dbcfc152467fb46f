import Derived.Test.YtehmfnpiidcbpaaGS5
namespace Go.Proofs.Ytehmfnpiidcbpaa
open Go.RowKit
set_option linter.unusedVariables false
set_option linter.unusedSimpArgs false
set_option maxHeartbeats 16000000
set_option maxRecDepth 100000
/-! ### outside, limited -/
theorem outF_step (lo : Int) (l : List (Int × Int)) (i : Nat) (h : i < l.length) (a b : Int) (hx : l[i] = (a, b)) : outF lo (l.drop i) = (if lo < a then [(lo, a - 1)] else []) ++ outF (b + 1) (l.drop (i + 1)) := by
  rw [List.drop_eq_getElem_cons h, hx]
  rfl
theorem outside_any (v1 : Value) (l : List (Int × Int)) (w : World) (h1 : PIn w v1 l) (hn : l.length ≤ 40000) (hb : ∀ r ∈ l, -1000000000000000 ≤ r.1 ∧ r.1 ≤ 1000000000000000 ∧ -1000000000000000 ≤ r.2 ∧ r.2 ≤ 1000000000000000) :
    Calls Try.prog 36 #[v1] w (RowR w (outF (-1000000000000000) l)) := by
  obtain ⟨o1, c1, rfl, hl1⟩ := h1
  obtain ⟨N, hN⟩ : ∃ N, l.length = N := ⟨_, rfl⟩
  obtain ⟨R, hR⟩ : ∃ R, outF (-1000000000000000) l = R := ⟨_, rfl⟩
  rw [hR]
  rw [hN] at hn ⊢
  replace hl1 := Lib.hid hl1; replace hN := Lib.hid hN; replace hR := Lib.hid hR; replace hb := Lib.hid hb
  go_enter Try.func36, Try.ntmps36
  go_wp2_with fail
  go_loopg [3, 4, 9] (N + 1) (fun k v3 v4 v9 wr => ∃ (i : Nat) (lo : Int) (out : List (Int × Int)) (bo : Option Nat), i ≤ N ∧ k + i = N + 1 ∧ v9 = .int .i64 i ∧ v4 = .int .i64 lo ∧ (-1000000000000000 ≤ lo ∧ lo ≤ 1000000000000001) ∧ out ++ outF lo (l.drop i) = R ∧ out.length ≤ i ∧ Row 2 wr v3 out.length (pcells out) bo ∧ (∀ z, bo = some z → w.heap.size ≤ z) ∧ Fr [] w wr)
  case atStart => exact ⟨0, -1000000000000000, [], none, by omega, by omega, rfl, rfl, by omega, hR.out, by simp, Row.nil _ _ _, by simp, Fr.refl _ _⟩
  case round =>
    obtain ⟨i, lo, out, bo, hi, hk, rfl, rfl, hlo, heq, hol, hrw, hnw, hF⟩ := hrel
    obtain ⟨wi, rfl⟩ : ∃ x : World, x = wr := ⟨_, rfl⟩
    obtain ⟨oz, cz, rfl⟩ := hrw.len
    obtain ⟨no, hno⟩ : ∃ x, out.length = x := ⟨_, rfl⟩
    by_cases hlt : i < N
    · have hltI : (i : Int) < N := by omega
      have hil : i < l.length := by have := hN.out; omega
      obtain ⟨B, off, rfl, hB, a1, a2⟩ := hl1.out i hil
      have x1 := hF.cell (p := ⟨B, off + i * 2, none⟩) hB (by simp)
      have x2 := hF.cell (p := ⟨B, off + i * 2 + 1, none⟩) hB (by simp)
      rw [a1] at x1
      rw [a2] at x2
      obtain ⟨⟨p1, p2⟩, hp⟩ : ∃ x, l[i] = x := ⟨_, rfl⟩
      have hbd := hb.out _ (List.getElem_mem hil)
      rw [hp] at x1 x2 hbd
      dsimp only at x1 x2 hbd
      rw [outF_step lo l i hil p1 p2 hp] at heq
      clear a1 a2
      obtain ⟨w1, hw1⟩ : ∃ x, wi.alloc (.cells #[.int .i64 p1, .int .i64 p2] 51) = x := ⟨_, rfl⟩
      have P1 := Pt.newA wi 51 #[.int .i64 p1, .int .i64 p2]
      rw [hw1] at P1
      have F1 : Fr [] wi w1 := by rw [← hw1]; exact (Fr.refl [] wi).alloc _
      obtain ⟨b1, hb1⟩ : ∃ x, wi.heap.size = x := ⟨_, rfl⟩
      rw [hb1] at P1
      have F2 := hF.trans F1
      have k1 := P1.cell
      have hrw1 := hrw.fr F1 (by simp)
      have s1 : wi.heap.size ≤ w1.heap.size := F1.size
      have s0 := hF.size
      have hb1w : w.heap.size ≤ b1 := by rw [← hb1]; exact s0
      by_cases hc : lo < p1
      · rw [if_pos hc, ← List.append_assoc] at heq
        obtain ⟨v', w9, bo', happ, hr9, hb9, f9⟩ := hrw1.addP (by omega) (lo, p1 - 1)
        have hne : b1 ∉ bo.toList := fun hm => by
          have e : bo = some b1 := by simpa using hm
          rw [e] at hrw
          have := hrw.lt
          omega
        have k9 := (f9.pt P1 hne).cell
        have G9 := F2.step f9 (fun z hz => .inr (hnw z (by simpa using hz)))
        have hb9' : ∀ z, bo' = some z → w.heap.size ≤ z := fun z hz => by
          rcases hb9 with e | ⟨z', e, h2⟩
          · exact hnw z (by rw [← e]; exact hz)
          · rw [hz] at e; cases e; omega
        dsimp only at happ
        rw [hno] at happ ⊢
        replace heq := Lib.hid heq; replace hp := Lib.hid hp; replace hrw := Lib.hid hrw; replace hrw1 := Lib.hid hrw1; replace hnw := Lib.hid hnw; replace hF := Lib.hid hF; replace F1 := Lib.hid F1; replace F2 := Lib.hid F2; replace P1 := Lib.hid P1; replace happ := Lib.hid happ; replace hr9 := Lib.hid hr9; replace hb9 := Lib.hid hb9; replace f9 := Lib.hid f9; replace G9 := Lib.hid G9; replace hb9' := Lib.hid hb9'; replace hol := Lib.hid hol; replace hno := Lib.hid hno; replace hne := Lib.hid hne
        go_wp2_with (first | (at_builtin; refine wpList_append_run _ rfl _ _ _ rfl rfl rfl happ.out ?_))
        go_roundg (gk - 1)
        case measure => omega
        case rel => exact ⟨i + 1, p2 + 1, _, _, by omega, by omega, by go_num, by go_num, by omega, heq.out, by rw [List.length_append]; have := hol.out; simp; omega, hr9.out, hb9'.out, G9.out⟩
      · rw [if_neg hc, List.nil_append] at heq
        rw [hno]
        replace heq := Lib.hid heq; replace hp := Lib.hid hp; replace hrw := Lib.hid hrw; replace hrw1 := Lib.hid hrw1; replace hnw := Lib.hid hnw; replace hF := Lib.hid hF; replace F1 := Lib.hid F1; replace F2 := Lib.hid F2; replace P1 := Lib.hid P1; replace hol := Lib.hid hol; replace hno := Lib.hid hno
        go_wp2_with fail
        go_roundg (gk - 1)
        case measure => omega
        case rel => exact ⟨i + 1, p2 + 1, _, _, by omega, by omega, by go_num, by go_num, by omega, heq.out, by have := hol.out; omega, by rw [← hno.out] ; exact hrw1.out, hnw.out, F2.out⟩
    · have hltI : ¬ (i : Int) < N := by omega
      rw [show l.drop i = [] from List.drop_eq_nil_of_le (by have := hN.out; omega)] at heq
      unfold outF at heq
      rw [hno]
      by_cases hc : lo ≤ 1000000000000000
      · rw [if_pos hc] at heq
        obtain ⟨v', w9, bo', happ, hr9, hb9, f9⟩ := hrw.addP (by omega) (lo, 1000000000000000)
        have G9 := hF.step f9 (fun z hz => .inr (hnw z (by simpa using hz)))
        have hb9' : ∀ z, bo' = some z → w.heap.size ≤ z := fun z hz => by
          have := hF.size
          rcases hb9 with e | ⟨z', e, h2⟩
          · exact hnw z (by rw [← e]; exact hz)
          · rw [hz] at e; cases e; omega
        rw [heq] at hr9
        dsimp only at happ
        rw [hno] at happ
        have GO : RowR w R (.returned v') w9 := ⟨_, _, rfl, hr9, hb9', G9⟩
        replace heq := Lib.hid heq; replace hrw := Lib.hid hrw; replace hnw := Lib.hid hnw; replace hF := Lib.hid hF; replace happ := Lib.hid happ; replace hr9 := Lib.hid hr9; replace hb9 := Lib.hid hb9; replace f9 := Lib.hid f9; replace G9 := Lib.hid G9; replace hb9' := Lib.hid hb9'; replace GO := Lib.hid GO; replace hno := Lib.hid hno; replace hol := Lib.hid hol
        go_wp2_with (first | (at_builtin; refine wpList_append_run _ rfl _ _ _ rfl rfl rfl happ.out ?_))
        go_ret
        exact GO.out
      · rw [if_neg hc, List.append_nil] at heq
        subst heq
        have GO : RowR w out (.returned (.slice oz no cz)) wi := ⟨_, _, rfl, by rw [← hno]; exact hrw, hnw, hF⟩
        replace hrw := Lib.hid hrw; replace hnw := Lib.hid hnw; replace hF := Lib.hid hF; replace GO := Lib.hid GO; replace hno := Lib.hid hno; replace hol := Lib.hid hol
        go_wp2_with fail
        go_ret
        exact GO.out
end Go.Proofs.Ytehmfnpiidcbpaa
