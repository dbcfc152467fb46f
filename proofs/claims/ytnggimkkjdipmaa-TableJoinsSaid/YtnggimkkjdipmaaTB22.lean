import Derived.Test.YtnggimkkjdipmaaTB21
namespace Go.Proofs.Ytnggimkkjdipmaa
open Go.RowKit
set_option linter.unusedVariables false
set_option linter.unusedSimpArgs false
set_option maxHeartbeats 16000000
set_option maxRecDepth 100000
theorem runs_any (T : Tb) (v : Value) (s : Int) (wv : Value) (l : List Int) (w : World) (hT : TIn w v T) (hz : Fits T) (hD : NIn w wv l) (hln : l.length ≤ 9223372036854775807) :
    Calls Try.prog 3 #[v, .int .i64 s, wv] w fun e w' => e = .returned (.bool true) ∧ Fr [] w w' := by
  have hlr : (T.Run s l).1.length ≤ 9223372036854775807 := by
    unfold Tb.Run; split
    · have := T.run_len l s; dsimp only; omega
    · simp
  obtain ⟨r, rfl, hR⟩ := hT
  have hval : T.val r = .agg #[.int .i64 T.st, .int .i64 T.ev, .int .i64 T.sr, r] := rfl
  rw [hval]
  obtain ⟨tv, htv⟩ : ∃ x, Value.agg #[.int .i64 T.st, .int .i64 T.ev, .int .i64 T.sr, r] = x := ⟨_, rfl⟩
  have HT : ∀ W, Fr [] w W → TIn W (.agg #[.int .i64 T.st, .int .i64 T.ev, .int .i64 T.sr, r]) T := fun W f => ⟨r, rfl, hR.fr f⟩
  obtain ⟨⟨L, s2, st2⟩, hx⟩ : ∃ x, T.Run s l = x := ⟨_, rfl⟩
  rw [hx] at hlr
  have RU : ∀ W, Fr [] w W → Calls Try.prog 16 #[.agg #[.int .i64 T.st, .int .i64 T.ev, .int .i64 T.sr, r], .int .i64 s, wv] W fun e w' => ∃ lv, e = .returned (.tuple #[lv, .int .i64 s2, .int .i64 st2]) ∧ NIn w' lv L ∧ Fr [] W w' ∧ Fr [] w w' := fun W f => (Run_any T _ s wv l W (HT W f) (hD.fr f)).mono (fun e w' h => by
    rw [hx] at h
    obtain ⟨lv, h1, h2, h3⟩ := h
    exact ⟨lv, h1, h2, h3, f.trans h3⟩)
  have RR : ∀ W rv, Fr [] w W → TIn W rv T → Calls Try.prog 17 #[rv, .int .i64 s, wv] W fun e w' => ∃ lv, e = .returned (.tuple #[lv, .int .i64 s2, .int .i64 st2]) ∧ NIn w' lv L ∧ Fr [] W w' ∧ Fr [] w w' := fun W rv f ht => (RRun_any T rv s wv l W ht (hD.fr f) hln).mono (fun e w' h => by
    rw [hx] at h
    obtain ⟨lv, h1, h2, h3⟩ := h
    exact ⟨lv, h1, h2, h3, f.trans h3⟩)
  have TO : ∀ W, Fr [] w W → Calls Try.prog 18 #[.agg #[.int .i64 T.st, .int .i64 T.ev, .int .i64 T.sr, r]] W fun e w' => ∃ rv, e = .returned rv ∧ TIn w' rv T ∧ Fr [] W w' := fun W f => to_any T _ W (HT W f) hz
  obtain ⟨w1, hw1⟩ : ∃ x, w.alloc (.cells #[.int .i64 T.st, .int .i64 T.ev, .int .i64 T.sr, r] TTab) = x := ⟨_, rfl⟩
  have P1 := Pt.newA w TTab #[.int .i64 T.st, .int .i64 T.ev, .int .i64 T.sr, r]
  rw [hw1] at P1
  have F1 : Fr [] w w1 := by rw [← hw1]; exact (Fr.refl [] w).alloc _
  obtain ⟨b1, hb1⟩ : ∃ x, w.heap.size = x := ⟨_, rfl⟩
  rw [hb1] at P1
  have k1 := P1.cell
  have VA := fun W (f : Fr [] w W) => valid_any T _ W (HT W f)
  clear htv tv hval
  replace hx := Lib.hid hx; replace hlr := Lib.hid hlr; replace P1 := Lib.hid P1; replace F1 := Lib.hid F1; replace RU := Lib.hid RU; replace RR := Lib.hid RR; replace TO := Lib.hid TO; replace HT := Lib.hid HT; replace VA := Lib.hid VA; replace hln := Lib.hid hln; replace hD := Lib.hid hD
  go_enter Try.func3, Try.ntmps3
  go_wp2_with fail
  refine (RU.out _ F1.out).mono ?_
  rintro e w2 ⟨lv, rfl, hL, f2, F2⟩
  have P2 := f2.pt P1.out (by simp)
  have k2 := P2.cell
  clear k1
  replace hL := Lib.hid hL; replace f2 := Lib.hid f2; replace F2 := Lib.hid F2; replace P2 := Lib.hid P2
  go_wp2_with fail
  refine (TO.out _ F2.out).mono ?_
  rintro e w3 ⟨rv, rfl, hrv, f3⟩
  have F3 := F2.out.trans f3
  have RR3 := Lib.hid (RR.out _ rv F3 hrv)
  replace hrv := Lib.hid hrv; replace f3 := Lib.hid f3; replace F3 := Lib.hid F3
  go_wp2_with fail
  refine RR3.out.mono ?_
  rintro e wq ⟨lv2, rfl, hL2, f4, FQ⟩
  have P4 := f4.pt (f3.out.pt P2.out (by simp)) (by simp)
  have hLq := ((hL.out.fr f3.out).fr f4)
  clear k2
  obtain ⟨bv, hbv⟩ : ∃ b, validT T = b := ⟨_, rfl⟩
  have SQ : ∀ W, Fr [] wq W → W.cell? ⟨b1, 0, none⟩ = some (.int .i64 T.st) ∧ W.cell? ⟨b1, 1, none⟩ = some (.int .i64 T.ev) ∧ W.cell? ⟨b1, 2, none⟩ = some (.int .i64 T.sr) ∧ W.cell? ⟨b1, 3, none⟩ = some r := fun W f => by
    have p := (f.pt P4 (by simp)).cell
    exact ⟨p 0, p 1, p 2, p 3⟩
  have VQ : ∀ W, Fr [] wq W → Calls Try.prog 19 #[.agg #[.int .i64 T.st, .int .i64 T.ev, .int .i64 T.sr, r]] W fun e w' => e = .returned (.bool bv) ∧ Fr [] W w' ∧ Fr [] wq w' := fun W f => (VA.out W (FQ.trans f)).mono (fun e w' h => ⟨by rw [h.1, hbv], h.2, f.trans h.2⟩)
  have TQ : ∀ W, Fr [] wq W → Calls Try.prog 18 #[.agg #[.int .i64 T.st, .int .i64 T.ev, .int .i64 T.sr, r]] W fun e w' => ∃ rv, e = .returned rv ∧ TIn w' rv T ∧ Fr [] wq w' := fun W f => (TO.out W (FQ.trans f)).mono (fun e w' h => by
    obtain ⟨rv, h1, h2, h3⟩ := h
    exact ⟨rv, h1, h2, f.trans h3⟩)
  have RQ : ∀ W rv, Fr [] wq W → TIn W rv T → Calls Try.prog 20 #[rv] W fun e w' => e = .returned (.bool bv) ∧ Fr [] wq w' := fun W rv f ht => (rvalid_any T rv W ht).mono (fun e w' h => ⟨by rw [h.1, hbv], f.trans h.2⟩)
  have IQ : ∀ W, Fr [] wq W → Calls Try.prog 21 #[lv, lv2] W fun e w' => e = .returned (.bool true) ∧ Fr [] wq w' := fun W f => (ints_any lv lv2 L L W (hLq.fr f) (hL2.fr f) hlr.out).mono (fun e w' h => ⟨by rw [h.1, decide_eq_true rfl], f.trans h.2⟩)
  have NQ : ∀ W, Fr [] wq W → Calls Try.prog 22 #[] W fun e w' => e = .returned (.bool true) ∧ Fr [] wq w' := fun W f => (sane_any W).mono (fun e w' h => ⟨h.1, f.trans h.2⟩)
  replace hL2 := Lib.hid hL2; replace f4 := Lib.hid f4; replace FQ := Lib.hid FQ; replace P4 := Lib.hid P4; replace hLq := Lib.hid hLq; replace SQ := Lib.hid SQ; replace VQ := Lib.hid VQ; replace TQ := Lib.hid TQ; replace RQ := Lib.hid RQ; replace IQ := Lib.hid IQ; replace NQ := Lib.hid NQ; replace hbv := Lib.hid hbv
  go_upto_region 3 with fail
  cases bv
  all_goals
    go_region_held3 (fun W => W.cell? ⟨b1, 0, none⟩ = some (.int .i64 T.st) ∧ W.cell? ⟨b1, 1, none⟩ = some (.int .i64 T.ev) ∧ W.cell? ⟨b1, 2, none⟩ = some (.int .i64 T.sr) ∧ W.cell? ⟨b1, 3, none⟩ = some r)
      (first | exact SQ.out _ (Fr.refl _ _).drew | exact SQ.out _ FN.out | exact SQ.out _ FI.out | exact SQ.out _ FR.out | exact SQ.out _ FV.out | exact SQ.out _ FT.out)
      ((first
        | (go_at_call 19; refine (VQ.out _ (by first | exact (Fr.refl _ _).drew | exact FR.out | exact FT.out)).mono ?_; rintro e wV ⟨rfl, fV, FV⟩; replace fV := Lib.hid fV; replace FV := Lib.hid FV)
        | (go_at_call 18; refine (TQ.out _ (by first | exact (Fr.refl _ _).drew | exact FV.out)).mono ?_; rintro e wT ⟨rv2, rfl, hT2, FT⟩; replace hT2 := Lib.hid hT2; replace FT := Lib.hid FT)
        | (go_at_call 20; refine (RQ.out _ rv2 FT.out hT2.out).mono ?_; rintro e wR ⟨rfl, FR⟩; replace FR := Lib.hid FR)
        | (go_at_call 20; refine (RQ.out _ rv2 FV.out (hT2.out.fr fV.out)).mono ?_; rintro e wR ⟨rfl, FR⟩; replace FR := Lib.hid FR)
        | (go_at_call 21; refine (IQ.out _ (by first | exact FR.out | exact FV.out)).mono ?_; rintro e wI ⟨rfl, FI⟩; replace FI := Lib.hid FI)
        | (go_at_call 22; refine (NQ.out _ FI.out).mono ?_; rintro e wN ⟨rfl, FN⟩; replace FN := Lib.hid FN)))
    all_goals
      go_wp2_with fail
      go_ret
      exact ⟨rfl, FQ.out.trans FN.out⟩
end Go.Proofs.Ytnggimkkjdipmaa
