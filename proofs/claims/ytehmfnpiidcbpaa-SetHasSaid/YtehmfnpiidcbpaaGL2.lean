import Derived.Test.YtehmfnpiidcbpaaGN6
import Derived.Test.YtehmfnpiidcbpaaGS4
import Derived.Deep.CutRange
import Derived.Deep.CutBlock
namespace Go.Proofs.Ytehmfnpiidcbpaa
open Go.RowKit
set_option linter.unusedVariables false
set_option linter.unusedSimpArgs false
set_option maxHeartbeats 16000000
set_option maxRecDepth 100000
/-! ### The law on single numbers -/
theorem OpP.bdm' {a b l : List (Int × Int)} {m : Int → Prop} (h : OpP a b m 0 l) (hm : ∀ x, m x → -1000000000000000 ≤ x ∧ x ≤ 1000000000000000) : Bd l := fun x hx => hm x ((h.ok.2.2.1 x).1 hx)
theorem has_of {a b l : List (Int × Int)} {m : Int → Prop} (h : OpP a b m 0 l) (hbm : ∀ x, m x → -1000000000000000 ≤ x ∧ x ≤ 1000000000000000) {n : Int} {Z : Bool} (hm : m n ↔ Z = true) : valS l = true ∧ hasF l n = Z := by
  obtain ⟨h1, h2, h3, h4⟩ := h.ok
  have hx : hasF l n = true ↔ Z = true := by rw [hasF_iff, h3, hm]
  exact ⟨valS_iff l |>.2 ⟨h2, h.bdm' hbm, h4⟩, by cases Z <;> simpa using hx⟩
theorem setHas_any (va vb : Value) (a b : List (Int × Int)) (n : Int) (w : World) (ha : PIn w va a) (hb : PIn w vb b) (hna : a.length ≤ 9223372036854775807) (hnb : b.length ≤ 9223372036854775807) :
    Calls Try.prog 4 #[va, vb, .int .i64 n] w fun e w' => e = .returned (.bool true) ∧ Fr [] w w' := by
  have H1 := Has_any va a n w ha hna
  obtain ⟨A, hA⟩ : ∃ A, valS a = A := ⟨_, rfl⟩
  obtain ⟨B, hB⟩ : ∃ B, valS b = B := ⟨_, rfl⟩
  obtain ⟨X, hX⟩ : ∃ B, hasF a n = B := ⟨_, rfl⟩
  obtain ⟨Y, hY⟩ : ∃ B, hasF b n = B := ⟨_, rfl⟩
  cases A
  · skip
    replace ha := Lib.hid ha; replace hb := Lib.hid hb; replace H1 := Lib.hid H1; replace hA := Lib.hid hA; replace hB := Lib.hid hB; replace hX := Lib.hid hX; replace hY := Lib.hid hY
    go_enter Try.func4, Try.ntmps4
    go_wp2_with fail
    refine (H1.out).mono ?_
    rintro e w1 ⟨h1, f1⟩
    obtain rfl : e = .returned (.tuple #[.bool false, .int .i64 1]) := by
      rcases h1 with ⟨h, _⟩ | ⟨_, h⟩
      · rw [hA.out] at h; cases h
      · exact h
    clear h1
    have V1 := rvalid_any va a w1 (ha.out.fr f1) hna
    rw [hA.out] at V1
    replace f1 := Lib.hid f1; replace V1 := Lib.hid V1
    go_wp2_with fail
    refine (V1.out).mono ?_
    rintro e w2 ⟨rfl, f2⟩
    have SN := sane_any w2
    replace f2 := Lib.hid f2; replace SN := Lib.hid SN
    go_wp2_with fail
    refine (SN.out).mono ?_
    rintro e w3 ⟨rfl, f3⟩
    replace f3 := Lib.hid f3
    go_wp2_with fail
    go_ret
    exact ⟨rfl, (f1.out.trans f2.out).trans f3.out⟩
  · have eX : (X != X) = false := by simp
    have eX2 : (X == X) = true := by simp
    replace ha := Lib.hid ha; replace hb := Lib.hid hb; replace H1 := Lib.hid H1; replace hA := Lib.hid hA; replace hB := Lib.hid hB; replace hX := Lib.hid hX; replace hY := Lib.hid hY
    go_enter Try.func4, Try.ntmps4
    go_wp2_with fail
    refine (H1.out).mono ?_
    rintro e w1 ⟨h1, f1⟩
    obtain rfl : e = .returned (.tuple #[.bool X, .int .i64 0]) := by
      rcases h1 with ⟨_, h⟩ | ⟨h, _⟩
      · rw [h, hX.out]
      · rw [hA.out] at h; cases h
    clear h1
    have V1 := rvalid_any va a w1 (ha.out.fr f1) hna
    rw [hA.out] at V1
    replace f1 := Lib.hid f1; replace V1 := Lib.hid V1
    go_wp2_with fail
    refine (V1.out).mono ?_
    rintro e w2 ⟨rfl, f2⟩
    have F2 := f1.out.trans f2
    have IN := in_any va a n w2 (ha.out.fr F2) hna
    rw [hX.out] at IN
    replace f2 := Lib.hid f2; replace F2 := Lib.hid F2; replace IN := Lib.hid IN
    go_wp2_with fail
    refine (IN.out).mono ?_
    rintro e w3 ⟨rfl, f3⟩
    have F3 := F2.out.trans f3
    have V2 := rvalid_any vb b w3 (hb.out.fr F3) hnb
    rw [hB.out] at V2
    replace f3 := Lib.hid f3; replace F3 := Lib.hid F3; replace V2 := Lib.hid V2
    go_wp2_with fail
    refine (V2.out).mono ?_
    rintro e w4 ⟨rfl, f4⟩
    have F4 := F3.out.trans f4
    cases B
    · have SN := sane_any w4
      replace f4 := Lib.hid f4; replace F4 := Lib.hid F4; replace SN := Lib.hid SN
      go_wp2_with fail
      refine (SN.out).mono ?_
      rintro e w5 ⟨rfl, f5⟩
      replace f5 := Lib.hid f5
      go_wp2_with fail
      go_ret
      exact ⟨rfl, F4.out.trans f5.out⟩
    · have hab : okAB a b = true := by unfold okAB; rw [hA.out, hB.out]; rfl
      have hxn : inS a n ↔ X = true := by rw [← hX.out, hasF_iff]
      have hyn : inS b n ↔ Y = true := by rw [← hY.out, hasF_iff]
      have ba : Bd a := (okAB_iff.1 hab).1.2.1
      have bb : Bd b := (okAB_iff.1 hab).2.2.1
      have HU := fun l (o : OpP a b (unM a b) 0 l) => has_of (Z := X || Y) o (fun x hx => hx.elim (ba x) (bb x)) (n := n) (by unfold unM; rw [hxn, hyn, Bool.or_eq_true])
      have HM := fun l (o : OpP a b (meM a b) 0 l) => has_of (Z := X && Y) o (fun x hx => ba x hx.1) (n := n) (by unfold meM; rw [hxn, hyn, Bool.and_eq_true])
      have HE := fun l (o : OpP a b (exM a b) 0 l) => has_of (Z := X && !Y) o (fun x hx => ba x hx.1) (n := n) (by unfold exM; rw [hxn, hyn]; cases X <;> cases Y <;> simp)
      have H2 := Has_any vb b n w4 (hb.out.fr F4) hnb
      replace f4 := Lib.hid f4; replace F4 := Lib.hid F4; replace H2 := Lib.hid H2; replace hab := Lib.hid hab; replace hxn := Lib.hid hxn; replace hyn := Lib.hid hyn; replace HU := Lib.hid HU; replace HM := Lib.hid HM; replace HE := Lib.hid HE; replace ba := Lib.hid ba; replace bb := Lib.hid bb
      go_wp2_with fail
      refine (H2.out).mono ?_
      rintro e w5 ⟨h5, f5⟩
      obtain rfl : e = .returned (.tuple #[.bool Y, .int .i64 0]) := by
        rcases h5 with ⟨_, h⟩ | ⟨h, _⟩
        · rw [h, hY.out]
        · rw [hB.out] at h; cases h
      clear h5
      have F5 := F4.out.trans f5
      replace f5 := Lib.hid f5; replace F5 := Lib.hid F5
      have O1 := union_any va vb a b w5 (ha.out.fr F5.out) (hb.out.fr F5.out) hna hnb
      replace O1 := Lib.hid O1
      go_wp2_with fail
      refine (O1.out).mono ?_
      rintro e u1 ⟨v1, l1, c1, rfl, p1, o1, g1⟩
      have G1 := F5.out.trans g1
      replace p1 := Lib.hid p1; replace o1 := Lib.hid o1; replace g1 := Lib.hid g1; replace G1 := Lib.hid G1
      go_upto_if 61 with fail
      go_cut [] from 62 to 77 (fun wx => Fr [] w wx)
      case first =>
        as_aux_lemma =>
        by_cases hc : c1 = 0
        · subst hc
          obtain ⟨q1, q2⟩ := HU.out l1 o1.out
          have HQ := Has_any v1 l1 n u1 p1.out (by have := o1.out.len; omega)
          replace HQ := Lib.hid HQ
          go_wp2_with fail
          refine (HQ.out).mono ?_
          rintro e u1' ⟨h, g1'⟩
          have hh : e = .returned (.tuple #[.bool (hasF l1 n), .int .i64 0]) := by
            rcases h with ⟨_, h⟩ | ⟨h, _⟩
            · exact h
            · rw [q1] at h; cases h
          rw [q2] at hh
          have GG := G1.out.trans g1'
          clear h q1 q2 eX eX2
          replace g1' := Lib.hid g1'; replace GG := Lib.hid GG
          cases X <;> cases Y
          all_goals
            simp only [Bool.or_true, Bool.true_or, Bool.or_false, Bool.and_true, Bool.and_false, Bool.true_and, Bool.false_and, Bool.not_true, Bool.not_false] at hh
            subst hh
            go_wp2_with fail
            go_meet
            case rel => exact GG.out
        · have b9 : (c1 == 0) = false := by simpa using hc
          have b9' : (c1 != 0) = true := by simpa using hc
          clear hc eX eX2
          go_wp2_with fail
          go_meet
          case rel => exact G1.out
      case rest =>
      obtain ⟨x1, hx1⟩ : ∃ q, q = wc := ⟨_, rfl⟩
      rw [← hx1] at hcut ⊢
      clear hx1
      have K1 := Lib.hid hcut
      clear hcut
      have O2 := Meet_any va vb a b x1 (ha.out.fr K1.out) (hb.out.fr K1.out) hna hnb
      replace O2 := Lib.hid O2
      go_wp2_with fail
      refine (O2.out).mono ?_
      rintro e u2 ⟨v2, l2, c2, rfl, p2, o2, g2⟩
      have G2 := K1.out.trans g2
      replace p2 := Lib.hid p2; replace o2 := Lib.hid o2; replace g2 := Lib.hid g2; replace G2 := Lib.hid G2
      go_upto_if 85 with fail
      go_cut [] from 86 to 101 (fun wx => Fr [] w wx)
      case first =>
        as_aux_lemma =>
        by_cases hc : c2 = 0
        · subst hc
          obtain ⟨q1, q2⟩ := HM.out l2 o2.out
          have HQ := Has_any v2 l2 n u2 p2.out (by have := o2.out.len; omega)
          replace HQ := Lib.hid HQ
          go_wp2_with fail
          refine (HQ.out).mono ?_
          rintro e u2' ⟨h, g2'⟩
          have hh : e = .returned (.tuple #[.bool (hasF l2 n), .int .i64 0]) := by
            rcases h with ⟨_, h⟩ | ⟨h, _⟩
            · exact h
            · rw [q1] at h; cases h
          rw [q2] at hh
          have GG := G2.out.trans g2'
          clear h q1 q2 eX eX2
          replace g2' := Lib.hid g2'; replace GG := Lib.hid GG
          cases X <;> cases Y
          all_goals
            simp only [Bool.or_true, Bool.true_or, Bool.or_false, Bool.and_true, Bool.and_false, Bool.true_and, Bool.false_and, Bool.not_true, Bool.not_false] at hh
            subst hh
            go_wp2_with fail
            go_meet
            case rel => exact GG.out
        · have b9 : (c2 == 0) = false := by simpa using hc
          have b9' : (c2 != 0) = true := by simpa using hc
          clear hc eX eX2
          go_wp2_with fail
          go_meet
          case rel => exact G2.out
      case rest =>
      obtain ⟨x2, hx2⟩ : ∃ q, q = wc := ⟨_, rfl⟩
      rw [← hx2] at hcut ⊢
      clear hx2
      have K2 := Lib.hid hcut
      clear hcut
      have O3 := Except_any va vb a b x2 (ha.out.fr K2.out) (hb.out.fr K2.out) hna hnb
      replace O3 := Lib.hid O3
      go_wp2_with fail
      refine (O3.out).mono ?_
      rintro e u3 ⟨v3, l3, c3, rfl, p3, o3, g3⟩
      have G3 := K2.out.trans g3
      replace p3 := Lib.hid p3; replace o3 := Lib.hid o3; replace g3 := Lib.hid g3; replace G3 := Lib.hid G3
      go_upto_if 109 with fail
      go_cut [] from 110 to 126 (fun wx => Fr [] w wx)
      case first =>
        as_aux_lemma =>
        by_cases hc : c3 = 0
        · subst hc
          obtain ⟨q1, q2⟩ := HE.out l3 o3.out
          have HQ := Has_any v3 l3 n u3 p3.out (by have := o3.out.len; omega)
          replace HQ := Lib.hid HQ
          go_wp2_with fail
          refine (HQ.out).mono ?_
          rintro e u3' ⟨h, g3'⟩
          have hh : e = .returned (.tuple #[.bool (hasF l3 n), .int .i64 0]) := by
            rcases h with ⟨_, h⟩ | ⟨h, _⟩
            · exact h
            · rw [q1] at h; cases h
          rw [q2] at hh
          have GG := G3.out.trans g3'
          clear h q1 q2 eX eX2
          replace g3' := Lib.hid g3'; replace GG := Lib.hid GG
          cases X <;> cases Y
          all_goals
            simp only [Bool.or_true, Bool.true_or, Bool.or_false, Bool.and_true, Bool.and_false, Bool.true_and, Bool.false_and, Bool.not_true, Bool.not_false] at hh
            subst hh
            go_wp2_with fail
            go_meet
            case rel => exact GG.out
        · have b9 : (c3 == 0) = false := by simpa using hc
          have b9' : (c3 != 0) = true := by simpa using hc
          clear hc eX eX2
          go_wp2_with fail
          go_meet
          case rel => exact G3.out
      case rest =>
      obtain ⟨x3, hx3⟩ : ∃ q, q = wc := ⟨_, rfl⟩
      rw [← hx3] at hcut ⊢
      clear hx3
      have K3 := Lib.hid hcut
      clear hcut
      have SN := sane_any x3
      replace SN := Lib.hid SN
      go_wp2_with fail
      refine (SN.out).mono ?_
      rintro e w9 ⟨rfl, f9⟩
      replace f9 := Lib.hid f9
      go_wp2_with fail
      go_ret
      exact ⟨rfl, K3.out.trans f9.out⟩
end Go.Proofs.Ytehmfnpiidcbpaa
