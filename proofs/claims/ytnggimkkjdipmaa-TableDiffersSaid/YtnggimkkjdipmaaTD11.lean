import Derived.Test.YtnggimkkjdipmaaTD10
namespace Go.Proofs.Ytnggimkkjdipmaa
open Go.RowKit
set_option linter.unusedVariables false
set_option linter.unusedSimpArgs false
set_option maxHeartbeats 16000000
set_option maxRecDepth 100000
theorem ralike_any (A B : Tb) (va vb : Value) (w : World) (hA : TIn w va A) (hB : TIn w vb B) :
    Calls Try.prog 26 #[va, vb] w fun e w' => e = .returned (.tuple #[.bool (alikeF A B).1, .int .i64 (alikeF A B).2]) ∧ Fr [] w w' := by
  obtain ⟨ra, rfl, hRA⟩ := hA
  obtain ⟨rb, rfl, hRB⟩ := hB
  rw [show A.val ra = .agg #[.int .i64 A.st, .int .i64 A.ev, .int .i64 A.sr, ra] from rfl, show B.val rb = .agg #[.int .i64 B.st, .int .i64 B.ev, .int .i64 B.sr, rb] from rfl]
  have VA : ∀ W, Fr [] w W → Calls Try.prog 20 #[.agg #[.int .i64 A.st, .int .i64 A.ev, .int .i64 A.sr, ra]] W fun e w' => e = .returned (.bool (validT A)) ∧ Fr [] W w' := fun W f => rvalid_any A _ W ⟨ra, rfl, hRA.fr f⟩
  have VB : ∀ W, Fr [] w W → Calls Try.prog 20 #[.agg #[.int .i64 B.st, .int .i64 B.ev, .int .i64 B.sr, rb]] W fun e w' => e = .returned (.bool (validT B)) ∧ Fr [] W w' := fun W f => rvalid_any B _ W ⟨rb, rfl, hRB.fr f⟩
  obtain ⟨w1, hw1⟩ : ∃ x, w.alloc (.cells #[.int .i64 A.st, .int .i64 A.ev, .int .i64 A.sr, ra] RTab) = x := ⟨_, rfl⟩
  have P1 := Pt.newA w RTab #[.int .i64 A.st, .int .i64 A.ev, .int .i64 A.sr, ra]
  rw [hw1] at P1
  have F1 : Fr [] w w1 := by rw [← hw1]; exact (Fr.refl [] w).alloc _
  obtain ⟨b1, hb1⟩ : ∃ x, w.heap.size = x := ⟨_, rfl⟩
  rw [hb1] at P1
  obtain ⟨w2, hw2⟩ : ∃ x, w1.alloc (.cells #[.int .i64 B.st, .int .i64 B.ev, .int .i64 B.sr, rb] RTab) = x := ⟨_, rfl⟩
  have P2 := Pt.newA w1 RTab #[.int .i64 B.st, .int .i64 B.ev, .int .i64 B.sr, rb]
  rw [hw2] at P2
  have F2 : Fr [] w1 w2 := by rw [← hw2]; exact (Fr.refl [] w1).alloc _
  obtain ⟨b2, hb2⟩ : ∃ x, w1.heap.size = x := ⟨_, rfl⟩
  rw [hb2] at P2
  have Q1 := F2.pt P1 (by simp)
  have FA := F1.trans F2
  have k1 := Q1.cell
  have k2 := P2.cell
  replace P1 := Lib.hid P1; replace P2 := Lib.hid P2; replace Q1 := Lib.hid Q1; replace F1 := Lib.hid F1; replace F2 := Lib.hid F2; replace FA := Lib.hid FA; replace VA := Lib.hid VA; replace VB := Lib.hid VB; replace hRA := Lib.hid hRA; replace hRB := Lib.hid hRB
  obtain ⟨X, hX⟩ : ∃ x, alikeF A B = x := ⟨_, rfl⟩
  rw [hX]
  have hX' := Lib.hid hX
  clear hX
  go_enter Try.func26, Try.ntmps26
  go_wp2_with fail
  refine (VA.out _ FA.out).mono ?_
  rintro e w3 ⟨rfl, f3⟩
  have F3 := FA.out.trans f3
  have Q31 := f3.pt Q1.out (by simp)
  have Q32 := f3.pt P2.out (by simp)
  have k31 := Q31.cell
  have k32 := Q32.cell
  clear k1 k2 hw1 hw2 hb1 hb2
  replace F3 := Lib.hid F3; replace f3 := Lib.hid f3; replace Q31 := Lib.hid Q31; replace Q32 := Lib.hid Q32
  cases hva : validT A
  · have hbad : ValidTwo A B = false := by simp [ValidTwo, hva]
    replace hva := Lib.hid hva
    have hx : X = (false, 1) := by rw [← hX'.out]; unfold alikeF; rw [hbad]; rfl
    subst hx
    replace hbad := Lib.hid hbad
    go_wp2_with fail
    go_ret2
    exact ⟨rfl, F3.out⟩
  have hVA := (validT_iff A).mp hva
  replace hva := Lib.hid hva
  go_wp2_with fail
  refine (VB.out _ F3.out).mono ?_
  rintro e w4 ⟨rfl, f4⟩
  have F4 := F3.out.trans f4
  have Q41 := f4.pt Q31.out (by simp)
  have Q42 := f4.pt Q32.out (by simp)
  have k41 := Q41.cell
  have k42 := Q42.cell
  clear k31 k32
  replace F4 := Lib.hid F4; replace f4 := Lib.hid f4; replace Q41 := Lib.hid Q41; replace Q42 := Lib.hid Q42; replace hVA := Lib.hid hVA
  cases hvb : validT B
  · have hbad : ValidTwo A B = false := by simp [ValidTwo, hvb]
    replace hvb := Lib.hid hvb
    have hx : X = (false, 1) := by rw [← hX'.out]; unfold alikeF; rw [hbad]; rfl
    subst hx
    replace hbad := Lib.hid hbad
    go_wp2_with fail
    go_ret2
    exact ⟨rfl, F4.out⟩
  have hVB := (validT_iff B).mp hvb
  replace hvb := Lib.hid hvb; replace hVB := Lib.hid hVB
  cases hee : A.ev == B.ev
  · have hee2 : (A.ev != B.ev) = true := by simp [bne, hee]
    have hbad : ValidTwo A B = false := by simp [ValidTwo]; intro _ _; simpa using hee
    have hx : X = (false, 1) := by rw [← hX'.out]; unfold alikeF; rw [hbad]; rfl
    subst hx
    replace hbad := Lib.hid hbad
    go_wp2_with fail
    go_ret2
    exact ⟨rfl, F4.out⟩
  have hee2 : (A.ev != B.ev) = false := by simp [bne, hee]
  have hev : A.ev = B.ev := by simpa using hee
  have hgood : ValidTwo A B = true := by simp [ValidTwo, hva.out, hvb.out, hev]
  replace hev := Lib.hid hev
  have sa := hVA.out.sr; have sb := hVB.out.sr
  have ta := hVA.out.st; have tb := hVB.out.st
  have hx : X = ((differT A B A.sr B.sr).isNone, 0) := by rw [← hX'.out]; unfold alikeF; rw [hgood]; rfl
  subst hx
  have hlaw := differT_law hVA.out hVB.out hev.out (a := A.sr) (b := B.sr) sa sb
  have SS : ∀ W, Fr [] w4 W → W.cell? ⟨b1, 0, none⟩ = some (.int .i64 A.st) ∧ W.cell? ⟨b1, 1, none⟩ = some (.int .i64 A.ev) ∧ W.cell? ⟨b1, 2, none⟩ = some (.int .i64 A.sr) ∧ W.cell? ⟨b1, 3, none⟩ = some ra ∧ W.cell? ⟨b2, 0, none⟩ = some (.int .i64 B.st) ∧ W.cell? ⟨b2, 1, none⟩ = some (.int .i64 B.ev) ∧ W.cell? ⟨b2, 2, none⟩ = some (.int .i64 B.sr) ∧ W.cell? ⟨b2, 3, none⟩ = some rb := fun W f => by
    have p := (f.pt Q41.out (by simp)).cell
    have q := (f.pt Q42.out (by simp)).cell
    exact ⟨p 0, p 1, p 2, p 3, q 0, q 1, q 2, q 3⟩
  have AP : ∀ W, Fr [] w4 W → Calls Try.prog 62 #[.agg #[.int .i64 A.st, .int .i64 A.ev, .int .i64 A.sr, ra], .agg #[.int .i64 B.st, .int .i64 B.ev, .int .i64 B.sr, rb]] W fun e w' => ∃ (bq oq na cq bs : Nat) (z : Bool) (nb : Nat), e = .returned (.slice (some ⟨bq, oq, none⟩) na cq) ∧ A.sr < (na : Int) ∧ B.sr < (nb : Int) ∧ w'.cell? ⟨bq, oq + A.sr.toNat, none⟩ = some (.slice (some ⟨bs, 0, none⟩) nb nb) ∧ w'.cell? ⟨bs, B.sr.toNat, none⟩ = some (.bool z) ∧ (!z) = (differT A B A.sr B.sr).isNone ∧ Fr [] w4 w' := fun W f => by
    refine (rapart_any A B _ _ W ⟨ra, rfl, hRA.out.fr (F4.out.trans f)⟩ ⟨rb, rfl, hRB.out.fr (F4.out.trans f)⟩ hVA.out hVB.out hev.out).mono ?_
    rintro e w' ⟨v, bo, bs, M, rfl, hM, hap, hf⟩
    obtain ⟨bq, oq, cq, rfl, hbq, g1, g2⟩ := hM.get A.sr.toNat (by omega)
    have g3 := g2 B.sr.toNat (by omega)
    have hap1 := hap A.sr.toNat B.sr.toNat (by omega) (by omega)
    rw [Int.toNat_of_nonneg sa.1, Int.toNat_of_nonneg sb.1] at hap1
    refine ⟨bq, oq, A.st.toNat, cq, bs A.sr.toNat, _, B.st.toNat, rfl, by omega, by omega, g1, g3, ?_, f.trans hf⟩
    cases hm : M A.sr.toNat B.sr.toNat with
    | true => have := hlaw.mpr (hap1.mp hm); cases hd : differT A B A.sr B.sr with | none => rw [hd] at this; simp at this | some w => rfl
    | false =>
      cases hd : differT A B A.sr B.sr with
      | none => rfl
      | some w => have := hap1.mpr (hlaw.mp (by rw [hd]; rfl)); rw [hm] at this; cases this
  have h0a := sa.1; have h0b := sb.1
  obtain ⟨RS, hRS⟩ : ∃ x, (differT A B A.sr B.sr).isNone = x := ⟨_, rfl⟩
  rw [hRS] at AP
  replace hgood := Lib.hid hgood; replace SS := Lib.hid SS; replace AP := Lib.hid AP; replace hlaw := Lib.hid hlaw; replace hRS := Lib.hid hRS
  obtain ⟨s0, s1, s2, s3, s4, s5, s6, s7⟩ := SS.out w4 (Fr.refl _ _)
  go_upto_region 3 with fail
  clear k41 k42
  go_region_law (first
      | (go_simp; go_at_call 62; with_reducible refine Calls.mono (AP.out _ ?hfr) ?_; (case hfr => first | exact (Fr.refl _ _).drew | exact Fr.refl _ _); rintro e wA ⟨bq, oq, na, cq, bs, z, nb, rfl, hna, hnb, g1, g2, hz, FAp⟩; (have t2 := (SS.out _ FAp).2.2.1); (have t6 := (SS.out _ FAp).2.2.2.2.2.2.1); replace hz := Lib.hid hz; replace FAp := Lib.hid FAp))
  all_goals
    have hz2 := hz.out
    subst hz2
    cases z
    all_goals
      go_wp2_with fail
      go_ret2
      exact ⟨by rw [hRS.out]; rfl, F4.out.trans FAp.out⟩
end Go.Proofs.Ytnggimkkjdipmaa
