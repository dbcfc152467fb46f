import Derived.Test.YtnggimkkjdipmaaTW2
import Derived.Test.YtnggimkkjdipmaaTC7
import Derived.Test.YtnggimkkjdipmaaTOpen
namespace Go.Proofs.Ytnggimkkjdipmaa
open Go.RowKit
set_option linter.unusedVariables false
set_option linter.unusedSimpArgs false
set_option maxHeartbeats 16000000
set_option maxRecDepth 100000
/-! ### The law TableFinds -/
theorem missF_len' (T : Tb) : (missF T).1.length ≤ 1000 := by
  unfold missF
  cases h : validT T
  · simp
  · have hV := (validT_iff T).mp h
    have := missTo_len hV (reachL T).length
    rw [missTo_all] at this
    simp; omega
theorem tfinds_any (T U : Tb) (va vb : Value) (w : World) (hA : TIn w va T) (hB : TIn w vb U) :
    Calls Try.prog 14 #[va, vb] w fun e w' => e = .returned (.bool true) ∧ Fr [] w w' := by
  obtain ⟨ra, rfl, hRA⟩ := hA
  obtain ⟨rb, rfl, hRB⟩ := hB
  rw [show T.val ra = .agg #[.int .i64 T.st, .int .i64 T.ev, .int .i64 T.sr, ra] from rfl, show U.val rb = .agg #[.int .i64 U.st, .int .i64 U.ev, .int .i64 U.sr, rb] from rfl]
  obtain ⟨w1, hw1⟩ : ∃ x, w.alloc (.cells #[.int .i64 T.st, .int .i64 T.ev, .int .i64 T.sr, ra] TTab) = x := ⟨_, rfl⟩
  have P1 := Pt.newA w TTab #[.int .i64 T.st, .int .i64 T.ev, .int .i64 T.sr, ra]
  rw [hw1] at P1
  have F1 : Fr [] w w1 := by rw [← hw1]; exact (Fr.refl [] w).alloc _
  obtain ⟨b1, hb1⟩ : ∃ x, w.heap.size = x := ⟨_, rfl⟩
  rw [hb1] at P1
  obtain ⟨w2, hw2⟩ : ∃ x, w1.alloc (.cells #[.int .i64 U.st, .int .i64 U.ev, .int .i64 U.sr, rb] TTab) = x := ⟨_, rfl⟩
  have P2 := Pt.newA w1 TTab #[.int .i64 U.st, .int .i64 U.ev, .int .i64 U.sr, rb]
  rw [hw2] at P2
  have F2 : Fr [] w1 w2 := by rw [← hw2]; exact (Fr.refl [] w1).alloc _
  obtain ⟨b2, hb2⟩ : ∃ x, w1.heap.size = x := ⟨_, rfl⟩
  rw [hb2] at P2
  have Q1 := F2.pt P1 (by simp)
  have FA := F1.trans F2
  have k1 := Q1.cell
  have k2 := P2.cell
  have MT : ∀ W, Fr [] w W → Calls Try.prog 35 #[.agg #[.int .i64 T.st, .int .i64 T.ev, .int .i64 T.sr, ra]] W fun e w' => (∃ o c, e = .returned (.tuple #[.slice o (missF T).1.length c, .int .i64 (missF T).2])) ∧ Fr [] W w' := fun W f => (Missing_any T _ W ⟨ra, rfl, hRA.fr f⟩).mono fun e w' ⟨ov, h1, h2, h3⟩ => by
    obtain ⟨o, c, rfl, _⟩ := h2
    exact ⟨⟨o, c, h1⟩, h3⟩
  have MU : ∀ W, Fr [] w W → Calls Try.prog 35 #[.agg #[.int .i64 U.st, .int .i64 U.ev, .int .i64 U.sr, rb]] W fun e w' => (∃ o c, e = .returned (.tuple #[.slice o (missF U).1.length c, .int .i64 (missF U).2])) ∧ Fr [] W w' := fun W f => (Missing_any U _ W ⟨rb, rfl, hRB.fr f⟩).mono fun e w' ⟨ov, h1, h2, h3⟩ => by
    obtain ⟨o, c, rfl, _⟩ := h2
    exact ⟨⟨o, c, h1⟩, h3⟩
  have SN := fun (W : World) => sane_any W
  have LA : ∀ W, Fr [] w W → Calls Try.prog 31 #[.agg #[.int .i64 T.st, .int .i64 T.ev, .int .i64 T.sr, ra]] W (LeastR T W) := fun W f => Least_any T _ W ⟨ra, rfl, hRA.fr f⟩
  have SU : ∀ W, Fr [] w W → Calls Try.prog 46 #[.agg #[.int .i64 T.st, .int .i64 T.ev, .int .i64 T.sr, ra]] W (CvR (suiteF T).1 (suiteF T).2 W) := fun W f => Suite_any T _ W ⟨ra, rfl, hRA.fr f⟩
  have PA : ∀ W sv ls, Fr [] w W → SIn W sv ls → ls.length ≤ 9223372036854775807 → Calls Try.prog 29 #[.agg #[.int .i64 T.st, .int .i64 T.ev, .int .i64 T.sr, ra], .agg #[.int .i64 U.st, .int .i64 U.ev, .int .i64 U.sr, rb], sv] W fun e w' => e = .returned (.tuple #[.bool (passF T U ls).1, .int .i64 (passF T U ls).2]) ∧ Fr [] W w' := fun W sv ls f hs hl => passes_any T U _ _ sv ls W ⟨ra, rfl, hRA.fr f⟩ ⟨rb, rfl, hRB.fr f⟩ hs hl
  have AL : ∀ W, Fr [] w W → Calls Try.prog 25 #[.agg #[.int .i64 T.st, .int .i64 T.ev, .int .i64 T.sr, ra], .agg #[.int .i64 U.st, .int .i64 U.ev, .int .i64 U.sr, rb]] W fun e w' => e = .returned (.tuple #[.bool (alikeF T U).1, .int .i64 (alikeF T U).2]) ∧ Fr [] W w' := fun W f => alike_any T U _ _ W ⟨ra, rfl, hRA.fr f⟩ ⟨rb, rfl, hRB.fr f⟩
  obtain ⟨⟨m1, e1⟩, hm1⟩ : ∃ x, missF T = x := ⟨_, rfl⟩
  obtain ⟨⟨m2, e2⟩, hm2⟩ : ∃ x, missF U = x := ⟨_, rfl⟩
  rw [hm1] at MT
  rw [hm2] at MU
  dsimp only at MT MU
  obtain ⟨l1, hl1⟩ : ∃ x, m1.length = x := ⟨_, rfl⟩
  obtain ⟨l2, hl2⟩ : ∃ x, m2.length = x := ⟨_, rfl⟩
  rw [hl1] at MT
  rw [hl2] at MU
  have hb1' : l1 ≤ 1000 := by
    rw [← hl1]
    have := missF_len' T
    rw [hm1] at this
    exact this
  have hb2' : l2 ≤ 1000 := by
    rw [← hl2]
    have := missF_len' U
    rw [hm2] at this
    exact this
  replace P1 := Lib.hid P1; replace P2 := Lib.hid P2; replace F1 := Lib.hid F1; replace F2 := Lib.hid F2; replace Q1 := Lib.hid Q1; replace FA := Lib.hid FA; replace MT := Lib.hid MT; replace MU := Lib.hid MU; replace SN := Lib.hid SN; replace LA := Lib.hid LA; replace SU := Lib.hid SU; replace PA := Lib.hid PA; replace AL := Lib.hid AL; replace hRA := Lib.hid hRA; replace hRB := Lib.hid hRB; replace hm1 := Lib.hid hm1; replace hm2 := Lib.hid hm2; replace hl1 := Lib.hid hl1; replace hl2 := Lib.hid hl2
  go_enter Try.func14, Try.ntmps14
  go_wp2_with fail
  refine (MT.out _ FA.out).mono ?_
  rintro e w3 ⟨⟨o1, c1, rfl⟩, f3⟩
  have F3 := FA.out.trans f3
  have Q3 := f3.pt Q1.out (by simp)
  have R3 := f3.pt P2.out (by simp)
  clear k1 k2 hb1 hb2 hw1 hw2
  have k2 := R3.cell
  replace f3 := Lib.hid f3; replace F3 := Lib.hid F3; replace Q3 := Lib.hid Q3; replace R3 := Lib.hid R3
  go_wp2_with fail
  refine (MU.out _ F3.out).mono ?_
  rintro e w4 ⟨⟨o2, c2, rfl⟩, f4⟩
  have F4 := F3.out.trans f4
  have Q4 := f4.pt Q3.out (by simp)
  have R4 := f4.pt R3.out (by simp)
  clear k2
  have hv1 := hm1.out
  have hv2 := hm2.out
  unfold missF at hv1 hv2
  cases hvT : validT T
  · as_aux_lemma =>
    rw [hvT] at hv1
    obtain ⟨rfl, rfl⟩ : [] = m1 ∧ 1 = e1 := by simpa using hv1
    have FL := F4
    clear hv1 hv2
    replace f4 := Lib.hid f4; replace F4 := Lib.hid F4; replace Q4 := Lib.hid Q4; replace R4 := Lib.hid R4; replace FL := Lib.hid FL; replace hvT := Lib.hid hvT
    go_wp2_with fail
    refine (SN.out _).mono ?_
    rintro e w9 ⟨rfl, f9⟩
    have GF := Fr.trans FL.out f9
    replace f9 := Lib.hid f9; replace GF := Lib.hid GF
    go_wp2_with fail
    go_ret
    exact ⟨rfl, GF.out⟩
  · rw [hvT, if_pos rfl] at hv1
    obtain ⟨hw1, rfl⟩ : missL T = m1 ∧ 0 = e1 := by simpa using hv1
    cases hvU : validT U
    · as_aux_lemma =>
      rw [hvU] at hv2
      obtain ⟨rfl, rfl⟩ : [] = m2 ∧ 1 = e2 := by simpa using hv2
      have FL := F4
      clear hv1 hv2 hw1
      replace f4 := Lib.hid f4; replace F4 := Lib.hid F4; replace Q4 := Lib.hid Q4; replace R4 := Lib.hid R4; replace FL := Lib.hid FL; replace hvT := Lib.hid hvT; replace hvU := Lib.hid hvU
      go_wp2_with fail
      refine (SN.out _).mono ?_
      rintro e w9 ⟨rfl, f9⟩
      have GF := Fr.trans FL.out f9
      replace f9 := Lib.hid f9; replace GF := Lib.hid GF
      go_wp2_with fail
      go_ret
      exact ⟨rfl, GF.out⟩
    · rw [hvU, if_pos rfl] at hv2
      obtain ⟨hw2, rfl⟩ : missL U = m2 ∧ 0 = e2 := by simpa using hv2
      clear hv1 hv2
      by_cases hl : 0 < l1 + l2
      · as_aux_lemma =>
        have hlI : (0 : Int) < (l1 : Int) + (l2 : Int) := by omega
        have FL := F4
        replace f4 := Lib.hid f4; replace F4 := Lib.hid F4; replace Q4 := Lib.hid Q4; replace R4 := Lib.hid R4; replace FL := Lib.hid FL; replace hvT := Lib.hid hvT; replace hvU := Lib.hid hvU; replace hw1 := Lib.hid hw1; replace hw2 := Lib.hid hw2
        go_wp2_with fail
        refine (SN.out _).mono ?_
        rintro e w9 ⟨rfl, f9⟩
        have GF := Fr.trans FL.out f9
        replace f9 := Lib.hid f9; replace GF := Lib.hid GF
        go_wp2_with fail
        go_ret
        exact ⟨rfl, GF.out⟩
      · have h10 : l1 = 0 := by omega
        have h20 : l2 = 0 := by omega
        have hm10 : missL T = [] := by rw [hw1]; exact List.eq_nil_of_length_eq_zero (by rw [hl1.out]; exact h10)
        have hm20 : missL U = [] := by rw [hw2]; exact List.eq_nil_of_length_eq_zero (by rw [hl2.out]; exact h20)
        subst h10
        subst h20
        have kq := Q4.cell
        have kr := R4.cell
        clear hw1 hw2 hl hb1' hb2'
        by_cases hev : T.ev = U.ev
        · have hevB : (T.ev != U.ev) = false := by simpa using hev
          have hVT := (validT_iff T).mp hvT
          have hVU := (validT_iff U).mp hvU
          have C5 := LA.out _ F4
          replace f4 := Lib.hid f4; replace F4 := Lib.hid F4; replace Q4 := Lib.hid Q4; replace R4 := Lib.hid R4; replace hvT := Lib.hid hvT; replace hvU := Lib.hid hvU; replace hm10 := Lib.hid hm10; replace hm20 := Lib.hid hm20; replace hev := Lib.hid hev; replace hVT := Lib.hid hVT; replace hVU := Lib.hid hVU; replace C5 := Lib.hid C5
          go_wp2_with fail
          refine C5.out.mono ?_
          rintro e w5 ⟨v5, s5, rfl, h5, f5⟩
          obtain ⟨rfl, r5, rfl, hr5⟩ : s5 = 0 ∧ TIn w5 v5 (leastT T) := by
            rcases h5 with ⟨_, h1, h2⟩ | ⟨h1, _⟩
            · exact ⟨h1, h2⟩
            · rw [hvT.out] at h1; cases h1
          have hLV := least_valid hVT.out
          have hfin := fun (hle : U.st ≤ (leastT T).st) => suite_finds hVT.out hVU.out hm10.out hm20.out hev.out hle
          obtain ⟨M, hM⟩ : ∃ x, leastT T = x := ⟨_, rfl⟩
          rw [hM] at hr5 hLV hfin ⊢
          obtain ⟨o5, c5, rfl, _⟩ := hr5
          obtain ⟨n5, hn5⟩ : ∃ x, M.rows.length = x := ⟨_, rfl⟩
          rw [show M.val (.slice o5 M.rows.length c5) = .agg #[.int .i64 M.st, .int .i64 M.ev, .int .i64 M.sr, .slice o5 M.rows.length c5] from rfl, hn5]
          have F5 := F4.out.trans f5
          have Q5 := f5.pt Q4.out (by simp)
          have R5 := f5.pt R4.out (by simp)
          obtain ⟨w6, hw6⟩ : ∃ x, w5.alloc (.cells #[.int .i64 M.st, .int .i64 M.ev, .int .i64 M.sr, .slice o5 n5 c5] TTab) = x := ⟨_, rfl⟩
          have P6 := Pt.newA w5 TTab #[.int .i64 M.st, .int .i64 M.ev, .int .i64 M.sr, .slice o5 n5 c5]
          rw [hw6] at P6
          have F6 : Fr [] w5 w6 := by rw [← hw6]; exact (Fr.refl [] w5).alloc _
          obtain ⟨b6, hb6⟩ : ∃ x, w5.heap.size = x := ⟨_, rfl⟩
          rw [hb6] at P6
          have F6' := F5.trans F6
          have Q6 := F6.pt Q5 (by simp)
          have R6 := F6.pt R5 (by simp)
          clear kq kr
          have kq := Q6.cell
          have C7 := SU.out _ F6'
          clear h5
          replace f5 := Lib.hid f5; replace F5 := Lib.hid F5; replace Q5 := Lib.hid Q5; replace R5 := Lib.hid R5; replace P6 := Lib.hid P6; replace F6 := Lib.hid F6; replace F6' := Lib.hid F6'; replace Q6 := Lib.hid Q6; replace R6 := Lib.hid R6; replace hM := Lib.hid hM; replace hn5 := Lib.hid hn5; replace hLV := Lib.hid hLV; replace hfin := Lib.hid hfin; replace C7 := Lib.hid C7
          go_wp2_with fail
          refine C7.out.mono ?_
          rintro e w7 ⟨v7, rfl, hs7, f7⟩
          have F7 := F6'.out.trans f7
          have Q7 := f7.pt Q6.out (by simp)
          have R7 := f7.pt R6.out (by simp)
          have P7 := f7.pt P6.out (by simp)
          clear kq hb6 hw6
          have kq := Q7.cell
          have kr := R7.cell
          have kp := P7.cell
          have hsf : suiteF T = (if 3000 < (suiteL M (tellsOf M)).length then ([], 2) else (suiteL M (tellsOf M), 0)) := by
            unfold suiteF
            rw [hvT.out, if_pos rfl, hM.out]
          by_cases hbig : 3000 < (suiteL M (tellsOf M)).length
          · as_aux_lemma =>
            rw [if_pos hbig] at hsf
            rw [hsf]
            dsimp only
            have FL := F7
            replace f7 := Lib.hid f7; replace F7 := Lib.hid F7; replace Q7 := Lib.hid Q7; replace R7 := Lib.hid R7; replace P7 := Lib.hid P7; replace hsf := Lib.hid hsf; replace hs7 := Lib.hid hs7; replace FL := Lib.hid FL; replace hbig := Lib.hid hbig
            go_wp2_with fail
            refine (SN.out _).mono ?_
            rintro e w9 ⟨rfl, f9⟩
            have GF := Fr.trans FL.out f9
            replace f9 := Lib.hid f9; replace GF := Lib.hid GF
            go_wp2_with fail
            go_ret
            exact ⟨rfl, GF.out⟩
          · rw [if_neg hbig] at hsf
            rw [hsf] at hs7 ⊢
            dsimp only at hs7 ⊢
            by_cases hle : U.st ≤ M.st
            · have hltI : ¬ M.st < U.st := by omega
              have hfin2 := hfin.out hle
              have hz : (alikeF T U).2 = 0 := by
                unfold alikeF ValidTwo
                rw [hvT.out, hvU.out, decide_eq_true hev.out]; rfl
              obtain ⟨⟨B, z⟩, hBz⟩ : ∃ x, alikeF T U = x := ⟨_, rfl⟩
              have C8 := PA.out w7 v7 _ F7 hs7 (by omega)
              rw [hfin2] at C8
              rw [hBz] at hz C8
              dsimp only at hz C8
              subst hz
              replace f7 := Lib.hid f7; replace F7 := Lib.hid F7; replace Q7 := Lib.hid Q7; replace R7 := Lib.hid R7; replace P7 := Lib.hid P7; replace hsf := Lib.hid hsf; replace hs7 := Lib.hid hs7; replace hbig := Lib.hid hbig; replace hfin2 := Lib.hid hfin2; replace hBz := Lib.hid hBz; replace C8 := Lib.hid C8
              go_wp2_with fail
              refine C8.out.mono ?_
              rintro e w8 ⟨rfl, f8⟩
              have F8 := F7.out.trans f8
              have Q8 := f8.pt Q7.out (by simp)
              have R8 := f8.pt R7.out (by simp)
              clear kq kr kp
              have kq := Q8.cell
              have kr := R8.cell
              have C9 := AL.out _ F8
              rw [hBz.out] at C9
              dsimp only at C9
              replace f8 := Lib.hid f8; replace F8 := Lib.hid F8; replace Q8 := Lib.hid Q8; replace R8 := Lib.hid R8; replace C9 := Lib.hid C9
              go_wp2_with fail
              refine C9.out.mono ?_
              rintro e w10 ⟨rfl, f10⟩
              have FL := F8.out.trans f10
              replace f10 := Lib.hid f10; replace FL := Lib.hid FL
              cases B
              all_goals
                go_wp2_with fail
                refine (SN.out _).mono ?_
                rintro e w9 ⟨rfl, f9⟩
                have GF := Fr.trans FL.out f9
                replace f9 := Lib.hid f9; replace GF := Lib.hid GF
                go_wp2_with fail
                go_ret
                exact ⟨rfl, GF.out⟩
            · as_aux_lemma =>
              have hltI : M.st < U.st := by omega
              have FL := F7
              replace f7 := Lib.hid f7; replace F7 := Lib.hid F7; replace Q7 := Lib.hid Q7; replace R7 := Lib.hid R7; replace P7 := Lib.hid P7; replace hsf := Lib.hid hsf; replace hs7 := Lib.hid hs7; replace FL := Lib.hid FL; replace hbig := Lib.hid hbig
              go_wp2_with fail
              refine (SN.out _).mono ?_
              rintro e w9 ⟨rfl, f9⟩
              have GF := Fr.trans FL.out f9
              replace f9 := Lib.hid f9; replace GF := Lib.hid GF
              go_wp2_with fail
              go_ret
              exact ⟨rfl, GF.out⟩
        · as_aux_lemma =>
          have hevB : (T.ev != U.ev) = true := by simpa using hev
          have FL := F4
          replace f4 := Lib.hid f4; replace F4 := Lib.hid F4; replace Q4 := Lib.hid Q4; replace R4 := Lib.hid R4; replace hvT := Lib.hid hvT; replace hvU := Lib.hid hvU; replace hm10 := Lib.hid hm10; replace hm20 := Lib.hid hm20; replace FL := Lib.hid FL
          go_wp2_with fail
          refine (SN.out _).mono ?_
          rintro e w9 ⟨rfl, f9⟩
          have GF := Fr.trans FL.out f9
          replace f9 := Lib.hid f9; replace GF := Lib.hid GF
          go_wp2_with fail
          go_ret
          exact ⟨rfl, GF.out⟩
end Go.Proofs.Ytnggimkkjdipmaa
