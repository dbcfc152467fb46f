import Derived.Test.YtehmfnpiidcbpaaGR8
namespace Go.Proofs.Ytehmfnpiidcbpaa
open Go.RowKit
set_option linter.unusedVariables false
set_option linter.unusedSimpArgs false
set_option maxHeartbeats 16000000
set_option maxRecDepth 100000
/-! ### The law on what is made -/
theorem sizeR_one (a : List (Int × Int)) : ∃ z c : Int, ∀ W e w', SizeR a W e w' → e = .returned (.tuple #[.int .i64 z, .int .i64 c]) ∧ Fr [] W w' := by
  cases hA : valS a
  · refine ⟨0, 1, fun W e w' h => ⟨?_, h.2⟩⟩
    rcases h.1 with ⟨h1, _⟩ | ⟨_, h1⟩
    · rw [hA] at h1; cases h1
    · exact h1
  · refine ⟨szS a, 0, fun W e w' h => ⟨?_, h.2⟩⟩
    rcases h.1 with ⟨_, h1⟩ | ⟨h1, _⟩
    · exact h1
    · rw [hA] at h1; cases h1
theorem setMakes_any (va vb : Value) (a b : List (Int × Int)) (w : World) (ha : PIn w va a) (hb : PIn w vb b) (hna : a.length ≤ 9223372036854775807) (hnb : b.length ≤ 9223372036854775807) :
    Calls Try.prog 5 #[va, vb] w fun e w' => e = .returned (.bool true) ∧ Fr [] w w' := by
  obtain ⟨oa, ca, rfl⟩ := ha.slice
  obtain ⟨ob, cb, rfl⟩ := hb.slice
  obtain ⟨VA, hVA⟩ : ∃ x, Value.slice oa a.length ca = x := ⟨_, rfl⟩
  obtain ⟨VB, hVB⟩ : ∃ x, Value.slice ob b.length cb = x := ⟨_, rfl⟩
  obtain ⟨na, hna2⟩ : ∃ n, a.length = n := ⟨_, rfl⟩
  obtain ⟨nb, hnb2⟩ : ∃ n, b.length = n := ⟨_, rfl⟩
  clear hVA hVB VA VB
  rw [hna2] at ha hna ⊢
  rw [hnb2] at hb hnb ⊢
  have ha1 : a.length ≤ 9223372036854775807 := by omega
  have hb1 : b.length ≤ 9223372036854775807 := by omega
  by_cases c1 : 300 < na
  · have c1I : (300 : Int) < (na : Int) := by omega
    have SN := sane_any w
    replace ha := Lib.hid ha; replace hb := Lib.hid hb; replace hna2 := Lib.hid hna2; replace hnb2 := Lib.hid hnb2; replace SN := Lib.hid SN
    go_enter Try.func5, Try.ntmps5
    go_wp2_with fail
    refine (SN.out).mono ?_
    rintro e w1 ⟨rfl, f1⟩
    replace f1 := Lib.hid f1
    go_wp2_with fail
    go_ret
    exact ⟨rfl, f1.out⟩
  · have c1I : ¬ (300 : Int) < (na : Int) := by omega
    by_cases c2 : 300 < nb
    · have c2I : (300 : Int) < (nb : Int) := by omega
      have SN := sane_any w
      replace ha := Lib.hid ha; replace hb := Lib.hid hb; replace hna2 := Lib.hid hna2; replace hnb2 := Lib.hid hnb2; replace SN := Lib.hid SN
      go_enter Try.func5, Try.ntmps5
      go_wp2_with fail
      refine (SN.out).mono ?_
      rintro e w1 ⟨rfl, f1⟩
      replace f1 := Lib.hid f1
      go_wp2_with fail
      go_ret
      exact ⟨rfl, f1.out⟩
    · have c2I : ¬ (300 : Int) < (nb : Int) := by omega
      have ha9 : a.length ≤ 100000 := by omega
      have hb9 : b.length ≤ 100000 := by omega
      have K1 := copy_any _ a w ha (by omega)
      replace ha := Lib.hid ha; replace hb := Lib.hid hb; replace hna2 := Lib.hid hna2; replace hnb2 := Lib.hid hnb2; replace K1 := Lib.hid K1
      go_enter Try.func5, Try.ntmps5
      go_wp2_with fail
      refine (K1.out).mono ?_
      rintro e w1 ⟨vc, rfl, pc, f1⟩
      have F1 := f1
      have K2 := copy_any _ b w1 (hb.out.fr F1) (by omega)
      replace pc := Lib.hid pc; replace f1 := Lib.hid f1; replace F1 := Lib.hid F1; replace K2 := Lib.hid K2
      go_wp2_with fail
      refine (K2.out).mono ?_
      rintro e w2 ⟨vd, rfl, pd, f2⟩
      have F2 := F1.out.trans f2
      have pc := pc.out.fr f2
      have O3 := union_any _ _ a b w2 (ha.out.fr F2) (hb.out.fr F2) ha1 hb1
      replace O3 := Lib.hid O3; replace f2 := Lib.hid f2; replace F2 := Lib.hid F2; replace pc := Lib.hid pc; replace pd := Lib.hid pd
      go_wp2_with fail
      refine (O3.out).mono ?_
      rintro e w3 ⟨v3, l3, c3, rfl, p3, o3, f3⟩
      have F3 := F2.out.trans f3
      have pc := pc.out.fr f3
      have pd := pd.out.fr f3
      have O4 := runion_any vc vd a b w3 pc pd ha1 hb1
      replace p3 := Lib.hid p3; replace o3 := Lib.hid o3; replace f3 := Lib.hid f3; replace F3 := Lib.hid F3; replace pc := Lib.hid pc; replace pd := Lib.hid pd; replace O4 := Lib.hid O4
      go_wp2_with fail
      refine (O4.out).mono ?_
      rintro e w4 ⟨v4, l4, c4, rfl, p4, o4, f4⟩
      obtain ⟨rfl, rfl⟩ := o3.out.one o4 rfl (fun _ => Iff.rfl)
      have F4 := F3.out.trans f4
      have pc := pc.out.fr f4
      have pd := pd.out.fr f4
      have O5 := pairs_same v3 v4 l3 w4 (p3.out.fr f4) p4 (by have := o3.out.len; omega)
      replace p4 := Lib.hid p4; replace o4 := Lib.hid o4; replace f4 := Lib.hid f4; replace F4 := Lib.hid F4; replace pc := Lib.hid pc; replace pd := Lib.hid pd; replace O5 := Lib.hid O5
      go_wp2_with fail
      refine (O5.out).mono ?_
      rintro e w5 ⟨rfl, f5⟩
      have F5 := F4.out.trans f5
      have pc := pc.out.fr f5
      have pd := pd.out.fr f5
      replace f5 := Lib.hid f5; replace F5 := Lib.hid F5; replace pc := Lib.hid pc; replace pd := Lib.hid pd
      have O6 := Meet_any _ _ a b w5 (ha.out.fr F5.out) (hb.out.fr F5.out) ha1 hb1
      replace O6 := Lib.hid O6
      go_wp2_with fail
      refine (O6.out).mono ?_
      rintro e w6 ⟨v6, l6, c6, rfl, p6, o6, f6⟩
      have F6 := F5.out.trans f6
      have pc := pc.out.fr f6
      have pd := pd.out.fr f6
      have O7 := rmeet_any vc vd a b w6 pc pd ha1 hb1
      replace p6 := Lib.hid p6; replace o6 := Lib.hid o6; replace f6 := Lib.hid f6; replace F6 := Lib.hid F6; replace pc := Lib.hid pc; replace pd := Lib.hid pd; replace O7 := Lib.hid O7
      go_wp2_with fail
      refine (O7.out).mono ?_
      rintro e w7 ⟨v7, l7, c7, rfl, p7, o7, f7⟩
      obtain ⟨rfl, rfl⟩ := o6.out.one o7 rfl (fun _ => Iff.rfl)
      have F7 := F6.out.trans f7
      have pc := pc.out.fr f7
      have pd := pd.out.fr f7
      have O8 := pairs_same v6 v7 l6 w7 (p6.out.fr f7) p7 (by have := o6.out.len; omega)
      replace p7 := Lib.hid p7; replace o7 := Lib.hid o7; replace f7 := Lib.hid f7; replace F7 := Lib.hid F7; replace pc := Lib.hid pc; replace pd := Lib.hid pd; replace O8 := Lib.hid O8
      go_wp2_with fail
      refine (O8.out).mono ?_
      rintro e w8 ⟨rfl, f8⟩
      have F8 := F7.out.trans f8
      have pc := pc.out.fr f8
      have pd := pd.out.fr f8
      replace f8 := Lib.hid f8; replace F8 := Lib.hid F8; replace pc := Lib.hid pc; replace pd := Lib.hid pd
      have O9 := Except_any _ _ a b w8 (ha.out.fr F8.out) (hb.out.fr F8.out) ha1 hb1
      replace O9 := Lib.hid O9
      go_wp2_with fail
      refine (O9.out).mono ?_
      rintro e w9 ⟨v9, l9, c9, rfl, p9, o9, f9⟩
      have F9 := F8.out.trans f9
      have pc := pc.out.fr f9
      have pd := pd.out.fr f9
      have O10 := rexcept_any vc vd a b w9 pc pd ha1 hb1
      replace p9 := Lib.hid p9; replace o9 := Lib.hid o9; replace f9 := Lib.hid f9; replace F9 := Lib.hid F9; replace pc := Lib.hid pc; replace pd := Lib.hid pd; replace O10 := Lib.hid O10
      go_wp2_with fail
      refine (O10.out).mono ?_
      rintro e w10 ⟨v10, l10, c10, rfl, p10, o10, f10⟩
      obtain ⟨rfl, rfl⟩ := o9.out.one o10 rfl (fun _ => Iff.rfl)
      have F10 := F9.out.trans f10
      have pc := pc.out.fr f10
      have pd := pd.out.fr f10
      have O11 := pairs_same v9 v10 l9 w10 (p9.out.fr f10) p10 (by have := o9.out.len; omega)
      replace p10 := Lib.hid p10; replace o10 := Lib.hid o10; replace f10 := Lib.hid f10; replace F10 := Lib.hid F10; replace pc := Lib.hid pc; replace pd := Lib.hid pd; replace O11 := Lib.hid O11
      go_wp2_with fail
      refine (O11.out).mono ?_
      rintro e w11 ⟨rfl, f11⟩
      have F11 := F10.out.trans f11
      have pc := pc.out.fr f11
      have pd := pd.out.fr f11
      replace f11 := Lib.hid f11; replace F11 := Lib.hid F11; replace pc := Lib.hid pc; replace pd := Lib.hid pd
      have S1 := Size_any _ a w11 (ha.out.fr F11.out) ha1
      obtain ⟨A, hA⟩ : ∃ A, valS a = A := ⟨_, rfl⟩
      have SZ : ∃ z c : Int, ∀ W e w', SizeR a W e w' → e = .returned (.tuple #[.int .i64 z, .int .i64 c]) ∧ Fr [] W w' := sizeR_one a
      obtain ⟨z, cz, hSZ⟩ := SZ
      replace S1 := Lib.hid S1; replace hA := Lib.hid hA; replace hSZ := Lib.hid hSZ
      go_wp2_with fail
      refine (S1.out).mono ?_
      intro e x1 h1
      obtain ⟨rfl, g1⟩ := hSZ.out _ _ _ h1
      clear h1
      have G1 := F11.out.trans g1
      have pc := pc.out.fr g1
      have pd := pd.out.fr g1
      have S2 := rSize_any vc a x1 pc ha1
      replace g1 := Lib.hid g1; replace G1 := Lib.hid G1; replace pc := Lib.hid pc; replace pd := Lib.hid pd; replace S2 := Lib.hid S2
      go_wp2_with fail
      refine (S2.out).mono ?_
      intro e x2 h2
      obtain ⟨rfl, g2⟩ := hSZ.out _ _ _ h2
      clear h2
      have G2 := G1.out.trans g2
      have pc := pc.out.fr g2
      have pd := pd.out.fr g2
      have S3 := Hull_any _ a x2 (ha.out.fr G2) ha1
      obtain ⟨⟨u1, u2, u3⟩, hu⟩ : ∃ u, hullF a = u := ⟨_, rfl⟩
      rw [hu] at S3
      dsimp only at S3
      replace g2 := Lib.hid g2; replace G2 := Lib.hid G2; replace pc := Lib.hid pc; replace pd := Lib.hid pd; replace S3 := Lib.hid S3
      go_wp2_with fail
      refine (S3.out).mono ?_
      rintro e x3 ⟨rfl, g3⟩
      have G3 := G2.out.trans g3
      have pc := pc.out.fr g3
      have pd := pd.out.fr g3
      have S4 := rHull_any vc a x3 pc ha1
      rw [hu] at S4
      dsimp only at S4
      replace g3 := Lib.hid g3; replace G3 := Lib.hid G3; replace pc := Lib.hid pc; replace pd := Lib.hid pd; replace S4 := Lib.hid S4; replace hu := Lib.hid hu
      go_wp2_with fail
      refine (S4.out).mono ?_
      rintro e x4 ⟨rfl, g4⟩
      have G4 := G3.out.trans g4
      have pc := pc.out.fr g4
      have pd := pd.out.fr g4
      have S5 := valid_any _ a x4 (ha.out.fr G4) ha1
      rw [hA.out] at S5
      replace g4 := Lib.hid g4; replace G4 := Lib.hid G4; replace pc := Lib.hid pc; replace pd := Lib.hid pd; replace S5 := Lib.hid S5
      go_wp2_with fail
      refine (S5.out).mono ?_
      rintro e x5 ⟨rfl, g5⟩
      have G5 := G4.out.trans g5
      have pc := pc.out.fr g5
      have pd := pd.out.fr g5
      have S6 := rvalid_any vc a x5 pc ha1
      rw [hA.out] at S6
      replace g5 := Lib.hid g5; replace G5 := Lib.hid G5; replace pc := Lib.hid pc; replace pd := Lib.hid pd; replace S6 := Lib.hid S6
      go_wp2_with fail
      refine (S6.out).mono ?_
      rintro e x6 ⟨rfl, g6⟩
      have G6 := G5.out.trans g6
      have pc := pc.out.fr g6
      have pd := pd.out.fr g6
      have S7 := pairs_same _ vc a x6 (ha.out.fr G6) pc (by omega)
      replace g6 := Lib.hid g6; replace G6 := Lib.hid G6; replace pc := Lib.hid pc; replace pd := Lib.hid pd; replace S7 := Lib.hid S7
      cases A
      all_goals
        go_wp2_with fail
        refine (S7.out).mono ?_
        rintro e x7 ⟨rfl, g7⟩
        have G7 := G6.out.trans g7
        have pd := pd.out.fr g7
        have S8 := pairs_same _ vd b x7 (hb.out.fr G7) pd (by omega)
        replace g7 := Lib.hid g7; replace G7 := Lib.hid G7; replace pd := Lib.hid pd; replace S8 := Lib.hid S8
        go_wp2_with fail
        refine (S8.out).mono ?_
        rintro e x8 ⟨rfl, g8⟩
        have G8 := G7.out.trans g8
        have SN := sane_any x8
        replace g8 := Lib.hid g8; replace G8 := Lib.hid G8; replace SN := Lib.hid SN
        go_wp2_with fail
        refine (SN.out).mono ?_
        rintro e x9 ⟨rfl, g9⟩
        have G9 := G8.out.trans g9
        replace g9 := Lib.hid g9; replace G9 := Lib.hid G9
        go_wp2_with fail
        go_ret
        exact ⟨rfl, G9.out⟩
end Go.Proofs.Ytehmfnpiidcbpaa
