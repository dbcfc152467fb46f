import Derived.Test.YtkkmjjddalpocaaDoorTok5
namespace Go.Proofs.YtkkmjjddalpocaaDoor
open Go.RowKit
set_option linter.unusedVariables false
set_option maxHeartbeats 800000
def bitOf (t : Int) : Int := if t = 0 then 1 else if t = 1 then 2 else if t = 2 then 4 else 8
/-- Asked: the number and the error -/
def askedP (s : TS) (t : Int) : Int × Int := if s.made = false ∨ t < 0 ∨ 4 ≤ t then (0, 1) else if bits .and .i64 s.mine (bitOf t) == bitOf t then (s.getA t, 0) else (0, 8)
theorem tAsked_any (b : Nat) (s : TS) (t : Int) (w : World) (hp : Pt w b TSide s.cells) : Calls Tryd.prog 21 #[.pointer (some ⟨b, 0, none⟩), .int .i64 t] w fun e w' => e = .returned (.tuple #[.int .i64 (askedP s t).1, .int .i64 (askedP s t).2]) ∧ ∃ k, w' = w.drewN k := by
  have HN := Lib.hid (tNone_any b _ w hp)
  obtain ⟨smade, smine, stheirs, s0, s1, s2, s3⟩ := s
  have hc := hp.cell
  simp only [TS.cells] at hc
  clear hp
  cases smade
  · have e1 : askedP ⟨false, smine, stheirs, s0, s1, s2, s3⟩ t = (0, 1) := by simp [askedP]
    rw [e1]
    go_enter Tryd.func21, Tryd.ntmps21
    go_wp2_with fail
    refine HN.out.mono ?_
    rintro e w' ⟨rfl, rfl⟩
    go_wp2
    go_ret2
    exact ⟨rfl, 0, rfl⟩
  · by_cases h0 : t < 0
    · have e1 : askedP ⟨true, smine, stheirs, s0, s1, s2, s3⟩ t = (0, 1) := by simp [askedP, h0]
      rw [e1]
      go_enter Tryd.func21, Tryd.ntmps21
      go_wp2_with fail
      refine HN.out.mono ?_
      rintro e w' ⟨rfl, rfl⟩
      go_wp2
      go_ret2
      exact ⟨rfl, 0, rfl⟩
    · by_cases h4 : 4 ≤ t
      · have e1 : askedP ⟨true, smine, stheirs, s0, s1, s2, s3⟩ t = (0, 1) := by simp [askedP, h4]
        rw [e1]
        go_enter Tryd.func21, Tryd.ntmps21
        go_wp2_with fail
        refine HN.out.mono ?_
        rintro e w' ⟨rfl, rfl⟩
        go_wp2
        go_ret2
        exact ⟨rfl, 0, rfl⟩
      · have ht : t = 0 ∨ t = 1 ∨ t = 2 ∨ t = 3 := by omega
        clear h0 h4
        rcases ht with rfl | rfl | rfl | rfl
        · have hw : IntKind.i64.wrap 1 = 1 := by decide
          rcases hb : (bits .and .i64 smine 1 == 1) with _ | _
          · have e1 : askedP ⟨true, smine, stheirs, s0, s1, s2, s3⟩ 0 = (0, 8) := by simp only [askedP, bitOf]; simp [hb]
            have e2 := Lib.hid e1
            clear e1
            go_enter Tryd.func21, Tryd.ntmps21
            go_wp2_with fail
            refine HN.out.mono ?_
            rintro e w' ⟨rfl, rfl⟩
            go_wp2_with fail
            go_quiet ((go_at_call 28; exact Calls.quiet_of_same ((tHas_any _ _ _).mono fun _ _ h => ⟨h.1, h.2.symm⟩)))
            go_wp2
            go_ret2
            exact ⟨by rw [e2.out]; rfl, _, rfl⟩
          · have e1 : askedP ⟨true, smine, stheirs, s0, s1, s2, s3⟩ 0 = (s0, 0) := by simp only [askedP, bitOf]; simp [hb, TS.getA]
            have e2 := Lib.hid e1
            clear e1
            go_enter Tryd.func21, Tryd.ntmps21
            go_wp2_with fail
            refine HN.out.mono ?_
            rintro e w' ⟨rfl, rfl⟩
            go_wp2_with fail
            go_quiet ((go_at_call 28; exact Calls.quiet_of_same ((tHas_any _ _ _).mono fun _ _ h => ⟨h.1, h.2.symm⟩)))
            go_wp2
            go_ret2
            exact ⟨by rw [e2.out]; rfl, _, rfl⟩
        · have hw : IntKind.i64.wrap 2 = 2 := by decide
          rcases hb : (bits .and .i64 smine 2 == 2) with _ | _
          · have e1 : askedP ⟨true, smine, stheirs, s0, s1, s2, s3⟩ 1 = (0, 8) := by simp only [askedP, bitOf]; simp [hb]
            have e2 := Lib.hid e1
            clear e1
            go_enter Tryd.func21, Tryd.ntmps21
            go_wp2_with fail
            refine HN.out.mono ?_
            rintro e w' ⟨rfl, rfl⟩
            go_wp2_with fail
            go_quiet ((go_at_call 28; exact Calls.quiet_of_same ((tHas_any _ _ _).mono fun _ _ h => ⟨h.1, h.2.symm⟩)))
            go_wp2
            go_ret2
            exact ⟨by rw [e2.out]; rfl, _, rfl⟩
          · have e1 : askedP ⟨true, smine, stheirs, s0, s1, s2, s3⟩ 1 = (s1, 0) := by simp only [askedP, bitOf]; simp [hb, TS.getA]
            have e2 := Lib.hid e1
            clear e1
            go_enter Tryd.func21, Tryd.ntmps21
            go_wp2_with fail
            refine HN.out.mono ?_
            rintro e w' ⟨rfl, rfl⟩
            go_wp2_with fail
            go_quiet ((go_at_call 28; exact Calls.quiet_of_same ((tHas_any _ _ _).mono fun _ _ h => ⟨h.1, h.2.symm⟩)))
            go_wp2
            go_ret2
            exact ⟨by rw [e2.out]; rfl, _, rfl⟩
        · have hw : IntKind.i64.wrap 4 = 4 := by decide
          rcases hb : (bits .and .i64 smine 4 == 4) with _ | _
          · have e1 : askedP ⟨true, smine, stheirs, s0, s1, s2, s3⟩ 2 = (0, 8) := by simp only [askedP, bitOf]; simp [hb]
            have e2 := Lib.hid e1
            clear e1
            go_enter Tryd.func21, Tryd.ntmps21
            go_wp2_with fail
            refine HN.out.mono ?_
            rintro e w' ⟨rfl, rfl⟩
            go_wp2_with fail
            go_quiet ((go_at_call 28; exact Calls.quiet_of_same ((tHas_any _ _ _).mono fun _ _ h => ⟨h.1, h.2.symm⟩)))
            go_wp2
            go_ret2
            exact ⟨by rw [e2.out]; rfl, _, rfl⟩
          · have e1 : askedP ⟨true, smine, stheirs, s0, s1, s2, s3⟩ 2 = (s2, 0) := by simp only [askedP, bitOf]; simp [hb, TS.getA]
            have e2 := Lib.hid e1
            clear e1
            go_enter Tryd.func21, Tryd.ntmps21
            go_wp2_with fail
            refine HN.out.mono ?_
            rintro e w' ⟨rfl, rfl⟩
            go_wp2_with fail
            go_quiet ((go_at_call 28; exact Calls.quiet_of_same ((tHas_any _ _ _).mono fun _ _ h => ⟨h.1, h.2.symm⟩)))
            go_wp2
            go_ret2
            exact ⟨by rw [e2.out]; rfl, _, rfl⟩
        · have hw : IntKind.i64.wrap 8 = 8 := by decide
          rcases hb : (bits .and .i64 smine 8 == 8) with _ | _
          · have e1 : askedP ⟨true, smine, stheirs, s0, s1, s2, s3⟩ 3 = (0, 8) := by simp only [askedP, bitOf]; simp [hb]
            have e2 := Lib.hid e1
            clear e1
            go_enter Tryd.func21, Tryd.ntmps21
            go_wp2_with fail
            refine HN.out.mono ?_
            rintro e w' ⟨rfl, rfl⟩
            go_wp2_with fail
            go_quiet ((go_at_call 28; exact Calls.quiet_of_same ((tHas_any _ _ _).mono fun _ _ h => ⟨h.1, h.2.symm⟩)))
            go_wp2
            go_ret2
            exact ⟨by rw [e2.out]; rfl, _, rfl⟩
          · have e1 : askedP ⟨true, smine, stheirs, s0, s1, s2, s3⟩ 3 = (s3, 0) := by simp only [askedP, bitOf]; simp [hb, TS.getA]
            have e2 := Lib.hid e1
            clear e1
            go_enter Tryd.func21, Tryd.ntmps21
            go_wp2_with fail
            refine HN.out.mono ?_
            rintro e w' ⟨rfl, rfl⟩
            go_wp2_with fail
            go_quiet ((go_at_call 28; exact Calls.quiet_of_same ((tHas_any _ _ _).mono fun _ _ h => ⟨h.1, h.2.symm⟩)))
            go_wp2
            go_ret2
            exact ⟨by rw [e2.out]; rfl, _, rfl⟩
end Go.Proofs.YtkkmjjddalpocaaDoor
