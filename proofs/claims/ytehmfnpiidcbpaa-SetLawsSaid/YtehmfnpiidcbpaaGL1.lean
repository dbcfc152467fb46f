import Derived.Test.YtehmfnpiidcbpaaGN6
namespace Go.Proofs.Ytehmfnpiidcbpaa
open Go.RowKit
set_option linter.unusedVariables false
set_option linter.unusedSimpArgs false
set_option maxHeartbeats 16000000
set_option maxRecDepth 100000
/-! ### The law on orders and parts -/
theorem szS_bd {l : List (Int × Int)} (h : valS l = true) : 0 ≤ szS l ∧ szS l ≤ 300000000000000000 := by
  unfold valS at h
  have h := of_decide_eq_true h
  have := szS_bound h.1 l.length (Nat.le_refl _)
  rw [List.take_length] at this
  omega
theorem OpP.at_ok {a b : List (Int × Int)} {m : Int → Prop} {c : Int} {l : List (Int × Int)} (h : OpP a b m c l) (h0 : c = 0) : OpP a b m 0 l := h0 ▸ h
theorem setLaws_any (va vb : Value) (a b : List (Int × Int)) (w : World) (ha : PIn w va a) (hb : PIn w vb b) (hna : a.length ≤ 9223372036854775807) (hnb : b.length ≤ 9223372036854775807) :
    Calls Try.prog 3 #[va, vb] w fun e w' => e = .returned (.bool true) ∧ Fr [] w w' := by
  have V1 := rvalid_any va a w ha hna
  obtain ⟨A, hA⟩ : ∃ A, valS a = A := ⟨_, rfl⟩
  obtain ⟨B, hB⟩ : ∃ B, valS b = B := ⟨_, rfl⟩
  rw [hA] at V1
  cases A
  · skip
    replace ha := Lib.hid ha; replace hb := Lib.hid hb; replace V1 := Lib.hid V1; replace hA := Lib.hid hA; replace hB := Lib.hid hB
    go_enter Try.func3, Try.ntmps3
    go_wp2_with fail
    refine (V1.out).mono ?_
    rintro e w1 ⟨rfl, f1⟩
    have SN := sane_any w1
    replace f1 := Lib.hid f1; replace SN := Lib.hid SN
    go_wp2_with fail
    refine (SN.out).mono ?_
    rintro e w2 ⟨rfl, f2⟩
    replace f2 := Lib.hid f2
    go_wp2_with fail
    go_ret
    exact ⟨rfl, f1.out.trans f2.out⟩
  · cases B
    · skip
      replace ha := Lib.hid ha; replace hb := Lib.hid hb; replace V1 := Lib.hid V1; replace hA := Lib.hid hA; replace hB := Lib.hid hB
      go_enter Try.func3, Try.ntmps3
      go_wp2_with fail
      refine (V1.out).mono ?_
      rintro e w1 ⟨rfl, f1⟩
      have V2 := rvalid_any vb b w1 (hb.out.fr f1) hnb
      rw [hB.out] at V2
      replace f1 := Lib.hid f1; replace V2 := Lib.hid V2
      go_wp2_with fail
      refine (V2.out).mono ?_
      rintro e w2 ⟨rfl, f2⟩
      have SN := sane_any w2
      replace f2 := Lib.hid f2; replace SN := Lib.hid SN
      go_wp2_with fail
      refine (SN.out).mono ?_
      rintro e w3 ⟨rfl, f3⟩
      replace f3 := Lib.hid f3
      go_wp2_with fail
      go_ret
      exact ⟨rfl, (f1.out.trans f2.out).trans f3.out⟩
    · have hab : okAB a b = true := by unfold okAB; rw [hA, hB]; rfl
      have hal : a.length ≤ 100 := (okAB_iff.1 hab).1.2.2
      replace ha := Lib.hid ha; replace hb := Lib.hid hb; replace V1 := Lib.hid V1; replace hA := Lib.hid hA; replace hB := Lib.hid hB; replace hab := Lib.hid hab
      go_enter Try.func3, Try.ntmps3
      go_wp2_with fail
      refine (V1.out).mono ?_
      rintro e w1 ⟨rfl, f1⟩
      have V2 := rvalid_any vb b w1 (hb.out.fr f1) hnb
      rw [hB.out] at V2
      replace f1 := Lib.hid f1; replace V2 := Lib.hid V2
      go_wp2_with fail
      refine (V2.out).mono ?_
      rintro e w2 ⟨rfl, f2⟩
      have F2 := f1.out.trans f2
      have U1 := union_any va vb a b w2 (ha.out.fr F2) (hb.out.fr F2) hna hnb
      replace f2 := Lib.hid f2; replace F2 := Lib.hid F2; replace U1 := Lib.hid U1
      go_wp2_with fail
      refine (U1.out).mono ?_
      rintro e w3 ⟨v3, l3, c3, rfl, p3, o3, f3⟩
      have F3 := F2.out.trans f3
      have U2 := union_any vb va b a w3 (hb.out.fr F3) (ha.out.fr F3) hnb hna
      replace p3 := Lib.hid p3; replace o3 := Lib.hid o3; replace f3 := Lib.hid f3; replace F3 := Lib.hid F3; replace U2 := Lib.hid U2
      go_wp2_with fail
      refine (U2.out).mono ?_
      rintro e w4 ⟨v4, l4, c4, rfl, p4, o4, f4⟩
      obtain ⟨rfl, rfl⟩ := o3.out.one o4 (okAB_comm a b) (unM_comm a b)
      have F4 := F3.out.trans f4
      have PS := pairs_same v3 v4 l3 w4 (p3.out.fr f4) p4 (by have := o3.out.len; omega)
      replace p4 := Lib.hid p4; replace o4 := Lib.hid o4; replace f4 := Lib.hid f4; replace F4 := Lib.hid F4; replace PS := Lib.hid PS
      go_wp2_with fail
      refine (PS.out).mono ?_
      rintro e w5 ⟨rfl, f5⟩
      have F5 := F4.out.trans f5
      have M1 := Meet_any va vb a b w5 (ha.out.fr F5) (hb.out.fr F5) hna hnb
      replace f5 := Lib.hid f5; replace F5 := Lib.hid F5; replace M1 := Lib.hid M1
      go_wp2_with fail
      refine (M1.out).mono ?_
      rintro e w6 ⟨v6, l6, c6, rfl, p6, o6, f6⟩
      have F6 := F5.out.trans f6
      have M2 := Meet_any vb va b a w6 (hb.out.fr F6) (ha.out.fr F6) hnb hna
      replace p6 := Lib.hid p6; replace o6 := Lib.hid o6; replace f6 := Lib.hid f6; replace F6 := Lib.hid F6; replace M2 := Lib.hid M2
      go_wp2_with fail
      refine (M2.out).mono ?_
      rintro e w7 ⟨v7, l7, c7, rfl, p7, o7, f7⟩
      obtain ⟨rfl, rfl⟩ := o6.out.one o7 (okAB_comm a b) (meM_comm a b)
      have F7 := F6.out.trans f7
      have p6 := p6.out.fr f7
      have PS2 := pairs_same v6 v7 l6 w7 p6 p7 (by have := o6.out.len; omega)
      replace p7 := Lib.hid p7; replace o7 := Lib.hid o7; replace f7 := Lib.hid f7; replace F7 := Lib.hid F7; replace PS2 := Lib.hid PS2; replace p6 := Lib.hid p6
      go_wp2_with fail
      refine (PS2.out).mono ?_
      rintro e w8 ⟨rfl, f8⟩
      have F8 := F7.out.trans f8
      have p6 := p6.out.fr f8
      have X1 := Except_any va vb a b w8 (ha.out.fr F8) (hb.out.fr F8) hna hnb
      replace f8 := Lib.hid f8; replace F8 := Lib.hid F8; replace X1 := Lib.hid X1; replace p6 := Lib.hid p6
      go_wp2_with fail
      refine (X1.out).mono ?_
      rintro e w9 ⟨v9, l9, c9, rfl, p9, o9, f9⟩
      have F9 := F8.out.trans f9
      have p6 := p6.out.fr f9
      have SN := sane_any w9
      by_cases hc6 : c6 = 0
      · subst hc6
        by_cases hc9 : c9 = 0
        · subst hc9
          have U3 := union_any v6 v9 l6 l9 w9 p6 p9 (by have := o6.out.len; omega) (by have := o9.len; omega)
          replace f9 := Lib.hid f9; replace F9 := Lib.hid F9; replace SN := Lib.hid SN; replace p6 := Lib.hid p6; replace p9 := Lib.hid p9; replace o9 := Lib.hid o9; replace U3 := Lib.hid U3
          go_wp2_with fail
          refine (U3.out).mono ?_
          rintro e w10 ⟨v10, l10, c10, rfl, p10, o10, f10⟩
          obtain ⟨rfl, rfl, hmd, hsz⟩ := parts_law o6.out o9.out o10
          have F10 := F9.out.trans f10
          have PS3 := pairs_same v10 va l10 w10 p10 (ha.out.fr F10) (by omega)
          replace p10 := Lib.hid p10; replace o10 := Lib.hid o10; replace f10 := Lib.hid f10; replace F10 := Lib.hid F10; replace PS3 := Lib.hid PS3; replace hmd := Lib.hid hmd; replace hsz := Lib.hid hsz
          go_wp2_with fail
          refine (PS3.out).mono ?_
          rintro e w11 ⟨rfl, f11⟩
          have F11 := F10.out.trans f11
          have hvm : valS l6 = true := by have := hmd.out; unfold okAB at this; exact (Bool.and_eq_true _ _ ▸ this).1
          have hvd : valS l9 = true := by have := hmd.out; unfold okAB at this; exact (Bool.and_eq_true _ _ ▸ this).2
          have S6 := Size_any v6 l6 w11 ((p6.out.fr f10.out).fr f11) (by have := o6.out.len; omega)
          replace f11 := Lib.hid f11; replace F11 := Lib.hid F11; replace S6 := Lib.hid S6
          go_wp2_with fail
          refine (S6.out).mono ?_
          rintro e w12 ⟨h12, f12⟩
          obtain rfl : e = .returned (.tuple #[.int .i64 (szS l6), .int .i64 0]) := by
            rcases h12 with ⟨_, h⟩ | ⟨h, _⟩
            · exact h
            · rw [hvm] at h; cases h
          clear h12
          have F12 := F11.out.trans f12
          have S9 := Size_any v9 l9 w12 (((p9.out.fr f10.out).fr f11.out).fr f12) (by have := o9.out.len; omega)
          have b6 := szS_bd hvm
          obtain ⟨s6, hs6⟩ : ∃ x, szS l6 = x := ⟨_, rfl⟩
          rw [hs6] at b6 ⊢
          replace f12 := Lib.hid f12; replace F12 := Lib.hid F12; replace S9 := Lib.hid S9; replace hs6 := Lib.hid hs6; replace hvm := Lib.hid hvm
          go_wp2_with fail
          refine (S9.out).mono ?_
          rintro e w13 ⟨h13, f13⟩
          obtain rfl : e = .returned (.tuple #[.int .i64 (szS l9), .int .i64 0]) := by
            rcases h13 with ⟨_, h⟩ | ⟨h, _⟩
            · exact h
            · rw [hvd] at h; cases h
          clear h13
          have F13 := F12.out.trans f13
          have Sa := Size_any va l10 w13 (ha.out.fr F13) (by omega)
          have b9 := szS_bd hvd
          obtain ⟨s9, hs9⟩ : ∃ x, szS l9 = x := ⟨_, rfl⟩
          rw [hs9] at b9 ⊢
          replace f13 := Lib.hid f13; replace F13 := Lib.hid F13; replace Sa := Lib.hid Sa; replace hs9 := Lib.hid hs9; replace hvd := Lib.hid hvd
          go_wp2_with fail
          refine (Sa.out).mono ?_
          rintro e w14 ⟨h14, f14⟩
          obtain rfl : e = .returned (.tuple #[.int .i64 (szS l10), .int .i64 0]) := by
            rcases h14 with ⟨_, h⟩ | ⟨h, _⟩
            · exact h
            · rw [hA.out] at h; cases h
          clear h14
          have F14 := F13.out.trans f14
          have e10 : szS l10 = s6 + s9 := by rw [← hsz.out, hs6.out, hs9.out]
          rw [e10]
          clear e10
          have SN2 := sane_any w14
          obtain ⟨b61, b62⟩ := b6
          obtain ⟨b91, b92⟩ := b9
          replace f14 := Lib.hid f14; replace F14 := Lib.hid F14; replace SN2 := Lib.hid SN2
          go_wp2_with fail
          refine (SN2.out).mono ?_
          rintro e w15 ⟨rfl, f15⟩
          have F15 := F14.out.trans f15
          replace f15 := Lib.hid f15; replace F15 := Lib.hid F15
          go_wp2_with fail
          go_ret
          exact ⟨rfl, F15.out⟩
        · have b9 : (c9 != 0) = true := by simpa using hc9
          have b9' : (c9 == 0) = false := by simpa using hc9
          clear hc9
          replace f9 := Lib.hid f9; replace F9 := Lib.hid F9; replace SN := Lib.hid SN; replace p6 := Lib.hid p6; replace p9 := Lib.hid p9; replace o9 := Lib.hid o9
          go_wp2_with fail
          refine (SN.out).mono ?_
          rintro e w10 ⟨rfl, f10⟩
          have F10 := F9.out.trans f10
          replace f10 := Lib.hid f10; replace F10 := Lib.hid F10
          go_wp2_with fail
          go_ret
          exact ⟨rfl, F10.out⟩
      · have b9 : (c6 != 0) = true := by simpa using hc6
        have b9' : (c6 == 0) = false := by simpa using hc6
        clear hc6
        replace f9 := Lib.hid f9; replace F9 := Lib.hid F9; replace SN := Lib.hid SN; replace p6 := Lib.hid p6; replace p9 := Lib.hid p9; replace o9 := Lib.hid o9
        go_wp2_with fail
        refine (SN.out).mono ?_
        rintro e w10 ⟨rfl, f10⟩
        have F10 := F9.out.trans f10
        replace f10 := Lib.hid f10; replace F10 := Lib.hid F10
        go_wp2_with fail
        go_ret
        exact ⟨rfl, F10.out⟩
end Go.Proofs.Ytehmfnpiidcbpaa
