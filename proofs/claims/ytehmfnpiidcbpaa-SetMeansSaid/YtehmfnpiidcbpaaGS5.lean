import Derived.Test.YtehmfnpiidcbpaaGS3
namespace Go.Proofs.Ytehmfnpiidcbpaa
open Go.RowKit
set_option linter.unusedVariables false
set_option linter.unusedSimpArgs false
set_option maxHeartbeats 16000000
set_option maxRecDepth 100000
/-! ### common -/
theorem comF_step (n : Nat) (s t : List (Int × Int)) (i j : Nat) (hi : i < s.length) (hj : j < t.length) (p q : Int × Int) (hp : s[i] = p) (hq : t[j] = q) :
    comF (n + 1) (s.drop i) (t.drop j) = (if max p.1 q.1 ≤ min p.2 q.2 then [(max p.1 q.1, min p.2 q.2)] else []) ++ if p.2 < q.2 then comF n (s.drop (i + 1)) (t.drop j) else comF n (s.drop i) (t.drop (j + 1)) := by
  rw [List.drop_eq_getElem_cons hi, List.drop_eq_getElem_cons hj, hp, hq]
  rfl
/-- common's work, half done. -/
structure CoI (w : World) (l1 l2 : List (Int × Int)) (i j : Nat) (out : List (Int × Int)) (wr : World) (v : Value) (bo : Option Nat) : Prop where
  le1 : i ≤ l1.length
  le2 : j ≤ l2.length
  row : Row 2 wr v out.length (pcells out) bo
  new : ∀ z, bo = some z → w.heap.size ≤ z
  fr : Fr [] w wr
  len : out.length ≤ i + j
  eq : out ++ comF (l1.length - i + (l2.length - j)) (l1.drop i) (l2.drop j) = comF (l1.length + l2.length) l1 l2
theorem CoI.frN {w : World} {l1 l2 : List (Int × Int)} {i j : Nat} {out : List (Int × Int)} {wr : World} {v : Value} {bo : Option Nat} (h : CoI w l1 l2 i j out wr v bo) (n : Nat) : CoI w l1 l2 i j out (wr.drewN n) v bo :=
  ⟨h.le1, h.le2, h.row.fr ((Fr.refl [] _).drewN n) (by simp), h.new, h.fr.trans ((Fr.refl _ _).drewN n), h.len, h.eq⟩
theorem CoI.start (w : World) (l1 l2 : List (Int × Int)) : CoI w l1 l2 0 0 [] w (.slice none 0 0) none :=
  ⟨by omega, by omega, Row.nil _ _ _, by simp, Fr.refl _ _, by simp, by simp⟩
/-- A new row of ranges is handed back. -/
def RowR (w : World) (L : List (Int × Int)) (e : Ending) (w' : World) : Prop := ∃ v bo, e = .returned v ∧ Row 2 w' v L.length (pcells L) bo ∧ (∀ z, bo = some z → w.heap.size ≤ z) ∧ Fr [] w w'
theorem common_any (v1 v2 : Value) (l1 l2 : List (Int × Int)) (w : World) (h1 : PIn w v1 l1) (h2 : PIn w v2 l2) (hn1 : l1.length ≤ 40000) (hn2 : l2.length ≤ 40000) :
    Calls Try.prog 34 #[v1, v2] w (RowR w (comF (l1.length + l2.length) l1 l2)) := by
  obtain ⟨o1, c1, rfl, hl1⟩ := h1
  obtain ⟨o2, c2, rfl, hl2⟩ := h2
  obtain ⟨n1, hN1⟩ : ∃ N, l1.length = N := ⟨_, rfl⟩
  obtain ⟨n2, hN2⟩ : ∃ N, l2.length = N := ⟨_, rfl⟩
  obtain ⟨R, hR⟩ : ∃ R, comF (l1.length + l2.length) l1 l2 = R := ⟨_, rfl⟩
  have I0 := CoI.start w l1 l2
  rw [hR]
  rw [hN1] at hn1 ⊢
  rw [hN2] at hn2 ⊢
  replace hl1 := Lib.hid hl1; replace hl2 := Lib.hid hl2; replace hN1 := Lib.hid hN1; replace hN2 := Lib.hid hN2; replace hR := Lib.hid hR; replace I0 := Lib.hid I0
  go_enter Try.func34, Try.ntmps34
  go_wp2_with fail
  go_loopg [5, 6, 7] (n1 + n2 + 1) (fun k v5 v6 v7 wr => ∃ (i j : Nat) (out : List (Int × Int)) (bo : Option Nat), k + i + j = n1 + n2 + 1 ∧ v6 = .int .i64 i ∧ v7 = .int .i64 j ∧ CoI w l1 l2 i j out wr v5 bo)
  case atStart => exact ⟨0, 0, [], none, by omega, rfl, rfl, I0.out⟩
  case round =>
    obtain ⟨i, j, out, bo, hk, rfl, rfl, hI⟩ := hrel
    obtain ⟨wi, rfl⟩ : ∃ x : World, x = wr := ⟨_, rfl⟩
    have hi := hI.le1
    have hj := hI.le2
    rw [hN1.out] at hi
    rw [hN2.out] at hj
    by_cases hlt : i < n1
    · have hltI : (i : Int) < n1 := by omega
      by_cases hlt2 : j < n2
      · have hltJ : (j : Int) < n2 := by omega
        have hil : i < l1.length := by have := hN1.out; omega
        have hjl : j < l2.length := by have := hN2.out; omega
        obtain ⟨B, off, rfl, hB, a1, a2⟩ := hl1.out i hil
        obtain ⟨B2, off2, rfl, hB2, a3, a4⟩ := hl2.out j hjl
        have x1 := hI.fr.cell (p := ⟨B, off + i * 2, none⟩) hB (by simp)
        have x2 := hI.fr.cell (p := ⟨B, off + i * 2 + 1, none⟩) hB (by simp)
        have x3 := hI.fr.cell (p := ⟨B2, off2 + j * 2, none⟩) hB2 (by simp)
        have x4 := hI.fr.cell (p := ⟨B2, off2 + j * 2 + 1, none⟩) hB2 (by simp)
        rw [a1] at x1
        rw [a2] at x2
        rw [a3] at x3
        rw [a4] at x4
        obtain ⟨⟨p1, p2⟩, hp⟩ : ∃ x, l1[i] = x := ⟨_, rfl⟩
        obtain ⟨⟨q1, q2⟩, hq⟩ : ∃ x, l2[j] = x := ⟨_, rfl⟩
        rw [hp] at x1 x2
        rw [hq] at x3 x4
        dsimp only at x1 x2 x3 x4
        have g2 := Lib.hid a2
        have g4 := Lib.hid a4
        rw [hp] at g2
        rw [hq] at g4
        clear a1 a2 a3 a4
        obtain ⟨mx, hmx⟩ : ∃ x, (if p1 < q1 then q1 else p1) = x := ⟨_, rfl⟩
        obtain ⟨mn, hmn⟩ : ∃ x, (if q2 < p2 then q2 else p2) = x := ⟨_, rfl⟩
        have emx : max p1 q1 = mx := by rw [← hmx]; split <;> omega
        have emn : min p2 q2 = mn := by rw [← hmn]; split <;> omega
        have hstep := comF_step (n1 + n2 - i - j - 1) l1 l2 i j hil hjl (p1, p2) (q1, q2) hp hq
        dsimp only at hstep
        rw [emx, emn] at hstep
        have heq := hI.eq
        have e1 : l1.length - i + (l2.length - j) = n1 + n2 - i - j - 1 + 1 := by have := hN1.out; have := hN2.out; omega
        rw [e1, hstep, hR.out] at heq
        clear hstep e1
        have hol : out.length < 100000 := by have := hI.len; omega
        have hrw := hI.row
        have hnw := hI.new
        have hfr := hI.fr
        have hln := hI.len
        -- the end of a round, whatever has been put
        have fin : ∀ (out2 : List (Int × Int)) (i2 j2 : Nat) (W : World) (v : Value) (b : Option Nat), out2 ++ comF (n1 + n2 - i - j - 1) (l1.drop i2) (l2.drop j2) = R → i2 + j2 = i + j + 1 → i2 ≤ n1 → j2 ≤ n2 → out2.length ≤ i + j + 1 →
            Row 2 W v out2.length (pcells out2) b → (∀ z, b = some z → w.heap.size ≤ z) → Fr [] w W → CoI w l1 l2 i2 j2 out2 W v b := fun out2 i2 j2 W v b g1 g2 g3 g4 g5 g6 g7 g8 =>
          ⟨by have := hN1.out; omega, by have := hN2.out; omega, g6, g7, g8, by omega, by
            have e2 : l1.length - i2 + (l2.length - j2) = n1 + n2 - i - j - 1 := by have := hN1.out; have := hN2.out; omega
            rw [e2, hR.out]; exact g1⟩
        clear hI
        by_cases hd : p2 < q2
        · obtain rfl : mn = p2 := by rw [← hmn]; split <;> omega
          by_cases hc : mx ≤ mn
          · rw [if_pos hc, ← List.append_assoc] at heq
            rw [if_pos hd] at heq
            have d9 := decide_eq_true hd
            replace heq := Lib.hid heq; replace hp := Lib.hid hp; replace hq := Lib.hid hq; replace fin := Lib.hid fin; replace hrw := Lib.hid hrw; replace hnw := Lib.hid hnw; replace hfr := Lib.hid hfr; replace hln := Lib.hid hln; replace hol := Lib.hid hol; replace hN1 := Lib.hid hN1; replace hN2 := Lib.hid hN2; replace emx := Lib.hid emx; replace emn := Lib.hid emn
            go_wp2_with fail
            go_quiet (fail)
            have hrq := hrw.out.fr ((Fr.refl [] wi).drewN nq) (by simp)
            obtain ⟨v', w9, bo', happ, hr9, hb9, f9⟩ := hrq.addP hol.out (mx, mn)
            obtain ⟨oz, cz, rfl⟩ := hrq.len
            have G9 := (hfr.out.trans ((Fr.refl _ _).drewN nq)).step f9 (fun z hz => .inr (hnw.out z (by simpa using hz)))
            have hb9' : ∀ z, bo' = some z → w.heap.size ≤ z := fun z hz => by
              rcases hb9 with e | ⟨z', e, h2⟩
              · exact hnw.out z (by rw [← e]; exact hz)
              · rw [hz] at e; cases e; have := hfr.out.size; have h3 : (wi.drewN nq).heap.size = wi.heap.size := rfl; omega
            have NX := fin.out _ (i + 1) j _ _ _ heq.out (by omega) (by omega) (by omega) (by rw [List.length_append]; have := hln.out; simp; omega) hr9 hb9' G9
            dsimp only at happ
            have y2 := G9.cell (p := ⟨B, off + i * 2 + 1, none⟩) hB (by simp)
            have y4 := G9.cell (p := ⟨B2, off2 + j * 2 + 1, none⟩) hB2 (by simp)
            rw [g2.out] at y2
            rw [g4.out] at y4
            clear x1 x2 x3 x4
            replace happ := Lib.hid happ; replace hr9 := Lib.hid hr9; replace hb9 := Lib.hid hb9; replace f9 := Lib.hid f9; replace G9 := Lib.hid G9; replace hb9' := Lib.hid hb9'; replace NX := Lib.hid NX; replace hrq := Lib.hid hrq
            go_wp2_with (first | (at_builtin; refine wpList_append_run _ rfl _ _ _ rfl rfl rfl happ.out ?_))
            go_quiet (fail)
            go_wp2_with fail
            go_roundg (gk - 1)
            case measure => omega
            case rel => exact ⟨(i + 1), j, _, _, by omega, by go_num, by go_num, NX.out.frN _⟩
          · rw [if_neg hc, List.nil_append] at heq
            rw [if_pos hd] at heq
            have d9 := decide_eq_true hd
            have NX := fun W f => fin _ (i + 1) j W _ _ heq (by omega) (by omega) (by omega) (by omega) (hrw.fr (w' := W) f (by simp)) hnw (hfr.trans f)
            replace heq := Lib.hid heq; replace hp := Lib.hid hp; replace hq := Lib.hid hq; replace fin := Lib.hid fin; replace hrw := Lib.hid hrw; replace hnw := Lib.hid hnw; replace hfr := Lib.hid hfr; replace hln := Lib.hid hln; replace hol := Lib.hid hol; replace hN1 := Lib.hid hN1; replace hN2 := Lib.hid hN2; replace emx := Lib.hid emx; replace emn := Lib.hid emn; replace NX := Lib.hid NX
            go_wp2_with fail
            go_quiet (fail)
            go_wp2_with fail
            go_quiet (fail)
            go_wp2_with fail
            go_roundg (gk - 1)
            case measure => omega
            case rel => exact ⟨(i + 1), j, _, _, by omega, by go_num, by go_num, NX.out _ ((Fr.refl _ _).drewN _)⟩
        · by_cases hc : mx ≤ mn
          · rw [if_pos hc, ← List.append_assoc] at heq
            rw [if_neg hd] at heq
            have d9 := decide_eq_false hd
            replace heq := Lib.hid heq; replace hp := Lib.hid hp; replace hq := Lib.hid hq; replace fin := Lib.hid fin; replace hrw := Lib.hid hrw; replace hnw := Lib.hid hnw; replace hfr := Lib.hid hfr; replace hln := Lib.hid hln; replace hol := Lib.hid hol; replace hN1 := Lib.hid hN1; replace hN2 := Lib.hid hN2; replace emx := Lib.hid emx; replace emn := Lib.hid emn
            go_wp2_with fail
            go_quiet (fail)
            have hrq := hrw.out.fr ((Fr.refl [] wi).drewN nq) (by simp)
            obtain ⟨v', w9, bo', happ, hr9, hb9, f9⟩ := hrq.addP hol.out (mx, mn)
            obtain ⟨oz, cz, rfl⟩ := hrq.len
            have G9 := (hfr.out.trans ((Fr.refl _ _).drewN nq)).step f9 (fun z hz => .inr (hnw.out z (by simpa using hz)))
            have hb9' : ∀ z, bo' = some z → w.heap.size ≤ z := fun z hz => by
              rcases hb9 with e | ⟨z', e, h2⟩
              · exact hnw.out z (by rw [← e]; exact hz)
              · rw [hz] at e; cases e; have := hfr.out.size; have h3 : (wi.drewN nq).heap.size = wi.heap.size := rfl; omega
            have NX := fin.out _ i (j + 1) _ _ _ heq.out (by omega) (by omega) (by omega) (by rw [List.length_append]; have := hln.out; simp; omega) hr9 hb9' G9
            dsimp only at happ
            have y2 := G9.cell (p := ⟨B, off + i * 2 + 1, none⟩) hB (by simp)
            have y4 := G9.cell (p := ⟨B2, off2 + j * 2 + 1, none⟩) hB2 (by simp)
            rw [g2.out] at y2
            rw [g4.out] at y4
            clear x1 x2 x3 x4
            replace happ := Lib.hid happ; replace hr9 := Lib.hid hr9; replace hb9 := Lib.hid hb9; replace f9 := Lib.hid f9; replace G9 := Lib.hid G9; replace hb9' := Lib.hid hb9'; replace NX := Lib.hid NX; replace hrq := Lib.hid hrq
            go_wp2_with (first | (at_builtin; refine wpList_append_run _ rfl _ _ _ rfl rfl rfl happ.out ?_))
            go_quiet (fail)
            go_wp2_with fail
            go_roundg (gk - 1)
            case measure => omega
            case rel => exact ⟨i, (j + 1), _, _, by omega, by go_num, by go_num, NX.out.frN _⟩
          · rw [if_neg hc, List.nil_append] at heq
            rw [if_neg hd] at heq
            have d9 := decide_eq_false hd
            have NX := fun W f => fin _ i (j + 1) W _ _ heq (by omega) (by omega) (by omega) (by omega) (hrw.fr (w' := W) f (by simp)) hnw (hfr.trans f)
            replace heq := Lib.hid heq; replace hp := Lib.hid hp; replace hq := Lib.hid hq; replace fin := Lib.hid fin; replace hrw := Lib.hid hrw; replace hnw := Lib.hid hnw; replace hfr := Lib.hid hfr; replace hln := Lib.hid hln; replace hol := Lib.hid hol; replace hN1 := Lib.hid hN1; replace hN2 := Lib.hid hN2; replace emx := Lib.hid emx; replace emn := Lib.hid emn; replace NX := Lib.hid NX
            go_wp2_with fail
            go_quiet (fail)
            go_wp2_with fail
            go_quiet (fail)
            go_wp2_with fail
            go_roundg (gk - 1)
            case measure => omega
            case rel => exact ⟨i, (j + 1), _, _, by omega, by go_num, by go_num, NX.out _ ((Fr.refl _ _).drewN _)⟩
      · have hltJ : ¬ (j : Int) < n2 := by omega
        have hend : out = R := by
          have h := hI.eq
          rw [hR.out, show l2.drop j = [] from List.drop_eq_nil_of_le (by have := hN2.out; omega), comF_nil2, List.append_nil] at h
          exact h
        have hfin := hI.row
        rw [hend] at hfin
        have hnw := hI.new
        have hfr := hI.fr
        replace hI := Lib.hid hI; replace hend := Lib.hid hend; replace hfin := Lib.hid hfin; replace hnw := Lib.hid hnw; replace hfr := Lib.hid hfr
        go_wp2_with fail
        go_ret
        exact ⟨_, _, rfl, hfin.out, hnw.out, hfr.out⟩
    · have hltI : ¬ (i : Int) < n1 := by omega
      have hend : out = R := by
        have h := hI.eq
        rw [hR.out, show l1.drop i = [] from List.drop_eq_nil_of_le (by have := hN1.out; omega), comF_nil, List.append_nil] at h
        exact h
      have hfin := hI.row
      rw [hend] at hfin
      have hnw := hI.new
      have hfr := hI.fr
      replace hI := Lib.hid hI; replace hend := Lib.hid hend; replace hfin := Lib.hid hfin; replace hnw := Lib.hid hnw; replace hfr := Lib.hid hfr
      go_wp2_with fail
      go_ret
      exact ⟨_, _, rfl, hfin.out, hnw.out, hfr.out⟩
end Go.Proofs.Ytehmfnpiidcbpaa
