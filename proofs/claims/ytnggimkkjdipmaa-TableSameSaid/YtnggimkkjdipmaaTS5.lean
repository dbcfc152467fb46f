import Derived.Test.YtnggimkkjdipmaaTD4
import Derived.Test.YtnggimkkjdipmaaTS3
import Derived.Test.YtnggimkkjdipmaaTS4
namespace Go.Proofs.Ytnggimkkjdipmaa
open Go.RowKit
set_option linter.unusedVariables false
set_option linter.unusedSimpArgs false
set_option maxHeartbeats 16000000
set_option maxRecDepth 100000
theorem valid_fits {T : Tb} (h : VT T) : Fits T := by
  have h1 := h.rows; have h2 := h.st; have h3 := h.ev
  exact ⟨by omega, fun l hl => by have := h.row l hl; omega⟩
theorem least_two {T : Tb} (hT : VT T) : ValidTwo T (leastT T) = true := by
  unfold ValidTwo
  rw [(validT_iff T).mpr hT, (validT_iff _).mpr (least_valid hT)]
  simp [leastT]
theorem least_alikeF {T : Tb} (hT : VT T) : alikeF T (leastT T) = (true, 0) := by
  unfold alikeF
  rw [if_pos (least_two hT)]
  have hL := least_valid hT
  cases h : differT T (leastT T) T.sr (leastT T).sr with
  | none => rfl
  | some w => exact absurd ((differT_law hT hL rfl hT.sr hL.sr).mp (by rw [h]; rfl)) (fun ha => least_alike hT ha (rel_start hT))
theorem least_differ {T : Tb} (hT : VT T) {x y : Int} (hx : 0 ≤ x ∧ x < (leastT T).st) (hy : 0 ≤ y ∧ y < (leastT T).st) (hne : x ≠ y) : (differF (leastT T) x (leastT T) y).2 = 0 := by
  have hL := least_valid hT
  have hv : ValidTwo (leastT T) (leastT T) = true := by unfold ValidTwo; rw [(validT_iff _).mpr hL]; simp
  unfold differF
  rw [if_pos (by rw [hv, (has_iff _ x).mpr hx, (has_iff _ y).mpr hy]; rfl)]
  have := (differT_law hL hL rfl hx hy).mpr (least_pairs hT hx hy hne)
  cases h : differT (leastT T) (leastT T) x y with
  | none => rw [h] at this; cases this
  | some w => rfl
theorem least_Run {T : Tb} (hT : VT T) (l : List Int) : ((leastT T).Run (leastT T).sr l).1 = (T.Run T.sr l).1 ∧ ((leastT T).Run (leastT T).sr l).2.2 = (T.Run T.sr l).2.2 := by
  have hL := least_valid hT
  have e1 : (leastT T).worded l = T.worded l := rfl
  have h1 : T.has T.sr = true := (has_iff _ _).mpr hT.sr
  have h2 : (leastT T).has (leastT T).sr = true := (has_iff _ _).mpr hL.sr
  unfold Tb.Run
  rw [(validT_iff T).mpr hT, (validT_iff _).mpr hL, h1, h2, e1]
  cases hw : T.worded l with
  | false => exact ⟨rfl, rfl⟩
  | true =>
    refine ⟨?_, rfl⟩
    have hr : ∀ e ∈ l, 0 ≤ e ∧ e < T.ev := fun e he => by
      unfold Tb.worded at hw
      rw [Bool.and_eq_true] at hw
      have := List.all_eq_true.mp hw.2 e he
      simpa using this
    exact (least_run hT l T.sr 0 hr (rel_start hT)).symm
theorem least_le {T : Tb} (hT : VT T) : (leastT T).st ≤ T.st := by
  have := (mems_ok hT).len
  have h2 := hT.st
  show ((mems T).length : Int) ≤ T.st
  omega
theorem tsame_any (T : Tb) (v wv : Value) (l : List Int) (w : World) (hT : TIn w v T) (hD : NIn w wv l) (hln : l.length ≤ 9223372036854775807) :
    Calls Try.prog 8 #[v, wv] w fun e w' => e = .returned (.bool true) ∧ Fr [] w w' := by
  obtain ⟨r, rfl, hR⟩ := hT
  rw [show T.val r = .agg #[.int .i64 T.st, .int .i64 T.ev, .int .i64 T.sr, r] from rfl]
  have LE : ∀ W, Fr [] w W → Calls Try.prog 31 #[.agg #[.int .i64 T.st, .int .i64 T.ev, .int .i64 T.sr, r]] W (LeastR T W) := fun W f => Least_any T _ W ⟨r, rfl, hR.fr f⟩
  obtain ⟨w1, hw1⟩ : ∃ x, w.alloc (.cells #[.int .i64 T.st, .int .i64 T.ev, .int .i64 T.sr, r] TTab) = x := ⟨_, rfl⟩
  have P1 := Pt.newA w TTab #[.int .i64 T.st, .int .i64 T.ev, .int .i64 T.sr, r]
  rw [hw1] at P1
  have F1 : Fr [] w w1 := by rw [← hw1]; exact (Fr.refl [] w).alloc _
  obtain ⟨b1, hb1⟩ : ∃ x, w.heap.size = x := ⟨_, rfl⟩
  rw [hb1] at P1
  have k1 := P1.cell
  replace P1 := Lib.hid P1; replace F1 := Lib.hid F1; replace LE := Lib.hid LE; replace hR := Lib.hid hR; replace hD := Lib.hid hD; replace hln := Lib.hid hln
  go_enter Try.func8, Try.ntmps8
  go_wp2_with fail
  refine (LE.out _ F1.out).mono ?_
  rintro e w2 ⟨v2, s, rfl, hcase, f2⟩
  have F2 := Lib.hid (F1.out.trans f2)
  have P2 := Lib.hid (f2.pt P1.out (by simp))
  have k2 := P2.out.cell
  replace f2 := Lib.hid f2
  clear k1 hw1 hb1
  rcases hcase with ⟨hv, rfl, tM⟩ | ⟨hv, rfl, rfl⟩
  · have hV := (validT_iff T).mp hv
    obtain ⟨rm, rfl, hRM⟩ := tM
    have hMV := least_valid hV
    have hAl := least_alikeF hV
    have hDi := fun x y => least_differ hV (x := x) (y := y)
    have hRu := least_Run hV l
    have hLe := least_le hV
    have hSf := least_self hV
    obtain ⟨M, hM⟩ : ∃ m, leastT T = m := ⟨_, rfl⟩
    rw [hM] at hRM hMV hAl hDi hRu hLe hSf ⊢
    obtain ⟨oM, cM, rfl⟩ : ∃ o c, rm = .slice o M.rows.length c := by obtain ⟨o, c, e, _⟩ := hRM; exact ⟨o, c, e⟩
    rw [show M.val (.slice oM M.rows.length cM) = .agg #[.int .i64 M.st, .int .i64 M.ev, .int .i64 M.sr, (.slice oM M.rows.length cM)] from rfl]
    obtain ⟨⟨O, s1, z⟩, hO⟩ : ∃ x, T.Run T.sr l = x := ⟨_, rfl⟩
    obtain ⟨⟨O', s2, z'⟩, hO'⟩ : ∃ x, M.Run M.sr l = x := ⟨_, rfl⟩
    rw [hO, hO'] at hRu
    dsimp only at hRu
    obtain ⟨rfl, rfl⟩ := hRu
    have hOl : O'.length ≤ 9223372036854775807 := by
      have h1 := congrArg (fun x => x.1.length) hO
      dsimp only at h1
      rw [← h1]
      unfold Tb.Run
      split
      · have := T.run_len l T.sr; have := hln.out; dsimp only; omega
      · simp
    have hzz : (z' != z') = false := by simp
    have hlt : ¬ T.st < M.st := by omega
    have hdl : decide (T.st < M.st) = false := decide_eq_false hlt
    have hMst := hMV.st
    obtain ⟨w3, hw3⟩ : ∃ x, w2.alloc (.cells #[.int .i64 M.st, .int .i64 M.ev, .int .i64 M.sr, (.slice oM M.rows.length cM)] TTab) = x := ⟨_, rfl⟩
    have P5 := Pt.newA w2 TTab #[.int .i64 M.st, .int .i64 M.ev, .int .i64 M.sr, (.slice oM M.rows.length cM)]
    rw [hw3] at P5
    have f3 : Fr [] w2 w3 := by rw [← hw3]; exact (Fr.refl [] w2).alloc _
    have F3 := F2.out.trans f3
    have P3 := f3.pt P2.out (by simp)
    have hRM3 := hRM.fr f3
    obtain ⟨b5, hb5⟩ : ∃ x, w2.heap.size = x := ⟨_, rfl⟩
    rw [hb5] at P5
    have k3 := P3.cell
    have k5 := P5.cell
    have RA : Calls Try.prog 16 #[.agg #[.int .i64 T.st, .int .i64 T.ev, .int .i64 T.sr, r], .int .i64 T.sr, wv] w3 fun e w' => ∃ v, e = .returned (.tuple #[v, .int .i64 s1, .int .i64 z']) ∧ NIn w' v O' ∧ Fr [] w3 w' := by
      have := Run_any T _ T.sr wv l w3 ⟨r, rfl, hR.out.fr F3⟩ (hD.out.fr F3)
      rw [hO] at this
      exact this
    have RB : ∀ W, Fr [] w3 W → Calls Try.prog 16 #[.agg #[.int .i64 M.st, .int .i64 M.ev, .int .i64 M.sr, (.slice oM M.rows.length cM)], .int .i64 M.sr, wv] W fun e w' => ∃ v, e = .returned (.tuple #[v, .int .i64 s2, .int .i64 z']) ∧ NIn w' v O' ∧ Fr [] W w' := fun W f => by
      have := Run_any M _ M.sr wv l W ⟨_, rfl, hRM3.fr f⟩ (hD.out.fr (F3.trans f))
      rw [hO'] at this
      exact this
    clear k2
    replace hRM := Lib.hid hRM; replace hRM3 := Lib.hid hRM3; replace hMV := Lib.hid hMV; replace hAl := Lib.hid hAl; replace hDi := Lib.hid hDi; replace hLe := Lib.hid hLe; replace hSf := Lib.hid hSf; replace hM := Lib.hid hM; replace hO := Lib.hid hO; replace hO' := Lib.hid hO'; replace hOl := Lib.hid hOl; replace hV := Lib.hid hV; replace hv := Lib.hid hv; replace f3 := Lib.hid f3; replace F3 := Lib.hid F3; replace P3 := Lib.hid P3; replace P5 := Lib.hid P5; replace RA := Lib.hid RA; replace RB := Lib.hid RB
    go_wp2_with fail
    refine RA.out.mono ?_
    rintro e w4 ⟨va, rfl, na, f4⟩
    have P4 := Lib.hid (f4.pt P3.out (by simp))
    have P54 := Lib.hid (f4.pt P5.out (by simp))
    have RB4 := Lib.hid (RB.out w4 f4)
    have k4 := P4.out.cell
    have k54 := P54.out.cell
    replace na := Lib.hid na; replace f4 := Lib.hid f4
    clear k3 k5 hw3
    go_wp2_with fail
    refine RB4.out.mono ?_
    rintro e w6 ⟨vb, rfl, nb, f6⟩
    have P6 := Lib.hid (f6.pt P4.out (by simp))
    have P56 := Lib.hid (f6.pt P54.out (by simp))
    have F6 := Lib.hid ((F3.out.trans f4.out).trans f6)
    have f36 := Lib.hid (f4.out.trans f6)
    have I1 := ints_any va vb O' O' w6 (na.out.fr f6) nb hOl.out
    rw [decide_eq_true rfl] at I1
    have k6 := P6.out.cell
    have k56 := P56.out.cell
    replace I1 := Lib.hid I1; replace nb := Lib.hid nb; replace f6 := Lib.hid f6
    clear k4 k54
    go_wp2_with fail
    refine I1.out.mono ?_
    rintro e w7 ⟨rfl, f7⟩
    have P7 := Lib.hid (f7.pt P6.out (by simp))
    have P57 := Lib.hid (f7.pt P56.out (by simp))
    have F7 := Lib.hid (F6.out.trans f7)
    have f37 := Lib.hid (f36.out.trans f7)
    have k7 := P7.out.cell
    have k57 := P57.out.cell
    have LM := Lib.hid (Least_any M _ w7 ⟨_, rfl, hRM3.out.fr f37.out⟩)
    replace f7 := Lib.hid f7
    clear k6 k56
    go_wp2_with fail
    refine LM.out.mono ?_
    rintro e w8 ⟨v8, s8, rfl, hc8, f8⟩
    rcases hc8 with ⟨_, rfl, tK⟩ | ⟨hbad, _, _⟩
    · rw [hSf.out] at tK
      obtain ⟨rk, rfl, hRK⟩ := tK
      obtain ⟨oK, cK, rfl⟩ : ∃ o c, rk = .slice o M.rows.length c := by obtain ⟨o, c, e, _⟩ := hRK; exact ⟨o, c, e⟩
      rw [show M.val (.slice oK M.rows.length cK) = .agg #[.int .i64 M.st, .int .i64 M.ev, .int .i64 M.sr, (.slice oK M.rows.length cK)] from rfl]
      obtain ⟨w9, hw9⟩ : ∃ x, w8.alloc (.cells #[.int .i64 M.st, .int .i64 M.ev, .int .i64 M.sr, (.slice oK M.rows.length cK)] TTab) = x := ⟨_, rfl⟩
      have P13 := Pt.newA w8 TTab #[.int .i64 M.st, .int .i64 M.ev, .int .i64 M.sr, (.slice oK M.rows.length cK)]
      rw [hw9] at P13
      have f9 : Fr [] w8 w9 := by rw [← hw9]; exact (Fr.refl [] w8).alloc _
      obtain ⟨b13, hb13⟩ : ∃ x, w8.heap.size = x := ⟨_, rfl⟩
      rw [hb13] at P13
      have P9 := Lib.hid (f9.pt (f8.pt P7.out (by simp)) (by simp))
      have P59 := Lib.hid (f9.pt (f8.pt P57.out (by simp)) (by simp))
      have F9 := Lib.hid ((F7.out.trans f8).trans f9)
      have f39 := Lib.hid ((f37.out.trans f8).trans f9)
      have hRK9 := Lib.hid (hRK.fr f9)
      have SS : ∀ W, Fr [] w9 W → W.cell? ⟨b13, 0, none⟩ = some (.int .i64 M.st) ∧ W.cell? ⟨b13, 1, none⟩ = some (.int .i64 M.ev) ∧ W.cell? ⟨b13, 2, none⟩ = some (.int .i64 M.sr) ∧ W.cell? ⟨b13, 3, none⟩ = some (.slice oK M.rows.length cK) ∧ W.cell? ⟨b5, 0, none⟩ = some (.int .i64 M.st) ∧ W.cell? ⟨b5, 1, none⟩ = some (.int .i64 M.ev) ∧ W.cell? ⟨b5, 2, none⟩ = some (.int .i64 M.sr) ∧ W.cell? ⟨b5, 3, none⟩ = some (.slice oM M.rows.length cM) := fun W f => by
        have p := (f.pt P13 (by simp)).cell
        have q := (f.pt P59.out (by simp)).cell
        exact ⟨p 0, p 1, p 2, p 3, q 0, q 1, q 2, q 3⟩
      have TK : ∀ W, Fr [] w9 W → Calls Try.prog 18 #[.agg #[.int .i64 M.st, .int .i64 M.ev, .int .i64 M.sr, (.slice oK M.rows.length cK)]] W fun e w' => ∃ rv, e = .returned rv ∧ TIn w' rv M ∧ Fr [] W w' ∧ Fr [] w9 w' := fun W f => (to_any M _ W ⟨_, rfl, hRK9.out.fr f⟩ (valid_fits hMV.out)).mono (fun e w' h => by
        obtain ⟨rv, h1, h2, h3⟩ := h
        exact ⟨rv, h1, h2, h3, f.trans h3⟩)
      have TM : ∀ W, Fr [] w9 W → Calls Try.prog 18 #[.agg #[.int .i64 M.st, .int .i64 M.ev, .int .i64 M.sr, (.slice oM M.rows.length cM)]] W fun e w' => ∃ rv, e = .returned rv ∧ TIn w' rv M ∧ Fr [] W w' ∧ Fr [] w9 w' := fun W f => (to_any M _ W ⟨_, rfl, (hRM3.out.fr f39.out).fr f⟩ (valid_fits hMV.out)).mono (fun e w' h => by
        obtain ⟨rv, h1, h2, h3⟩ := h
        exact ⟨rv, h1, h2, h3, f.trans h3⟩)
      have SM : ∀ W rva rvb, Fr [] w9 W → TIn W rva M → TIn W rvb M → Calls Try.prog 32 #[rva, rvb] W fun e w' => e = .returned (.bool true) ∧ Fr [] w9 w' := fun W rva rvb f h1 h2 =>
        (rsame_eq M rva rvb W h1 h2 hMV.out).mono (fun e w' h => ⟨h.1, f.trans h.2⟩)
      obtain ⟨t0, t1, t2, t3, t4, t5, t6, t7⟩ := SS w9 (Fr.refl _ _)
      have k9 := P9.out.cell
      replace hRK := Lib.hid hRK; replace P13 := Lib.hid P13; replace f9 := Lib.hid f9; replace f8 := Lib.hid f8; replace SS := Lib.hid SS; replace TK := Lib.hid TK; replace TM := Lib.hid TM; replace SM := Lib.hid SM
      clear k7 k57
      go_upto_region 9 with fail
      clear t0 t1 t2 t3 t4 t5 t6 t7 k9 hw9
      go_region_held3 (fun W => W.cell? ⟨b13, 0, none⟩ = some (.int .i64 M.st) ∧ W.cell? ⟨b13, 1, none⟩ = some (.int .i64 M.ev) ∧ W.cell? ⟨b13, 2, none⟩ = some (.int .i64 M.sr) ∧ W.cell? ⟨b13, 3, none⟩ = some (.slice oK M.rows.length cK) ∧ W.cell? ⟨b5, 0, none⟩ = some (.int .i64 M.st) ∧ W.cell? ⟨b5, 1, none⟩ = some (.int .i64 M.ev) ∧ W.cell? ⟨b5, 2, none⟩ = some (.int .i64 M.sr) ∧ W.cell? ⟨b5, 3, none⟩ = some (.slice oM M.rows.length cM))
        (first | exact SS.out _ (Fr.refl _ _).drew | exact SS.out _ GS.out | exact SS.out _ GA.out | exact SS.out _ GB.out)
        ((first
          | (go_at_call 18; with_reducible refine Calls.mono (TK.out _ ?hfr) ?_; (case hfr => first | exact (Fr.refl _ _).drew | exact GB.out); rintro e wA ⟨rva, rfl, tA, gA, GA⟩; replace tA := Lib.hid tA; replace gA := Lib.hid gA; replace GA := Lib.hid GA)
          | (go_at_call 18; with_reducible refine Calls.mono (TM.out _ ?hfr) ?_; (case hfr => first | exact (Fr.refl _ _).drew | exact GA.out); rintro e wB ⟨rvb, rfl, tB, gB, GB⟩; replace tB := Lib.hid tB; replace gB := Lib.hid gB; replace GB := Lib.hid GB)
          | (go_at_call 32; with_reducible refine Calls.mono (SM.out wB rva rvb GB.out (tA.out.fr gB.out) tB.out) ?_; rintro e wS ⟨rfl, GS⟩; replace GS := Lib.hid GS)
          | (go_at_call 32; with_reducible refine Calls.mono (SM.out wA rva rvb GA.out tA.out (tB.out.fr gA.out)) ?_; rintro e wS ⟨rfl, GS⟩; replace GS := Lib.hid GS)))
      all_goals
        as_aux_lemma =>
        clear tA tB gA gB GA GB SS TK TM SM
        have PS := Lib.hid (GS.out.pt P9.out (by simp))
        have P5S := Lib.hid (GS.out.pt P59.out (by simp))
        have FS := Lib.hid (F9.out.trans GS.out)
        have f3S := Lib.hid (f39.out.trans GS.out)
        have kS := PS.out.cell
        have k5S := P5S.out.cell
        have AL := alike_any T M _ _ wS ⟨r, rfl, hR.out.fr FS.out⟩ ⟨_, rfl, hRM3.out.fr f3S.out⟩
        rw [hAl.out] at AL
        replace AL := Lib.hid AL
        go_wp2_with fail
        refine AL.out.mono ?_
        rintro e wL ⟨rfl, fL⟩
        have P5L := Lib.hid (fL.pt P5S.out (by simp))
        have FL := Lib.hid (FS.out.trans fL)
        have f3L := Lib.hid (f3S.out.trans fL)
        replace fL := Lib.hid fL
        clear kS k5S
        go_wp2_with fail
        go_loopg [15] 40 (fun k v15 wr => ∃ x : Nat, (x : Int) ≤ M.st ∧ k + x = 40 ∧ v15 = .int .i64 x ∧ Fr [] wL wr)
        case atStart => exact ⟨0, by omega, rfl, rfl, Fr.refl _ _⟩
        case round =>
          obtain ⟨x, hx, hk, rfl, hF⟩ := hrel
          obtain ⟨gx, rfl⟩ : ∃ g : Nat, g = gk := ⟨_, rfl⟩
          obtain ⟨wx, rfl⟩ : ∃ y : World, y = wr := ⟨_, rfl⟩
          have k5x := (hF.pt P5L.out (by simp)).cell
          by_cases hxl : (x : Int) < M.st
          · replace hF := Lib.hid hF
            go_wp2_with fail
            clear k5x
            go_loopg [16] 40 (fun k v16 wr => ∃ y : Nat, y ≤ x ∧ k + y = 40 ∧ v16 = .int .i64 y ∧ Fr [] wL wr)
            case atStart => exact ⟨0, by omega, rfl, rfl, hF.out⟩
            clear hF
            case round =>
              obtain ⟨y, hy, hk2, rfl, hF⟩ := hrel
              obtain ⟨wy, rfl⟩ : ∃ z : World, z = wr := ⟨_, rfl⟩
              have k5y := (hF.pt P5L.out (by simp)).cell
              by_cases hyx : y < x
              · have hyxI : (y : Int) < (x : Int) := by omega
                have hd2 := hDi.out (x : Int) (y : Int) ⟨by omega, hxl⟩ ⟨by omega, by omega⟩ (by omega)
                have DF : Calls Try.prog 27 #[.agg #[.int .i64 M.st, .int .i64 M.ev, .int .i64 M.sr, (.slice oM M.rows.length cM)], .int .i64 (x : Int), .agg #[.int .i64 M.st, .int .i64 M.ev, .int .i64 M.sr, (.slice oM M.rows.length cM)], .int .i64 (y : Int)] wy fun e w' => ∃ v, e = .returned (.tuple #[v, .int .i64 0]) ∧ NIn w' v (differF M x M y).1 ∧ Fr [] wy w' := by
                  have := Differ_any M M _ _ (x : Int) (y : Int) wy ⟨_, rfl, hRM3.out.fr (f3L.out.trans hF)⟩ ⟨_, rfl, hRM3.out.fr (f3L.out.trans hF)⟩
                  exact this.mono (fun e w' ⟨v, h1, h2, h3⟩ => ⟨v, by rw [← hd2]; exact h1, h2.nin, h3⟩)
                replace DF := Lib.hid DF; replace hF := Lib.hid hF; replace hd2 := Lib.hid hd2
                go_wp2_with fail
                refine DF.out.mono ?_
                rintro e wD ⟨vD, rfl, nD, fD⟩
                have FD := Lib.hid (hF.out.trans fD)
                replace nD := Lib.hid nD; replace fD := Lib.hid fD
                clear k5y
                go_wp2_with fail
                go_roundg (gk - 1)
                case measure => omega
                case rel => exact ⟨y + 1, by omega, by omega, by go_num, FD.out⟩
              · have hyxI : ¬ (y : Int) < (x : Int) := by omega
                replace hF := Lib.hid hF
                go_wp2_with fail
                go_roundg (gx - 1)
                case measure => omega
                case rel => exact ⟨x + 1, by omega, by omega, by go_num, hF.out⟩
          · have SN := Lib.hid (sane_any wx)
            have FX := Lib.hid (FL.out.trans hF)
            replace hF := Lib.hid hF
            go_wp2_with fail
            refine SN.out.mono ?_
            rintro e wz ⟨rfl, fz⟩
            have FZ := Lib.hid (FX.out.trans fz)
            go_wp2_with fail
            go_ret
            exact ⟨rfl, FZ.out⟩
    · exact absurd ((validT_iff M).mpr hMV.out) (by rw [hbad]; simp)
  · rw [show Tb.val ⟨0, 0, 0, []⟩ (.slice none 0 0) = .agg #[.int .i64 0, .int .i64 0, .int .i64 0, .slice none 0 0] from rfl]
    obtain ⟨w3, hw3⟩ : ∃ x, w2.alloc (.cells #[.int .i64 0, .int .i64 0, .int .i64 0, .slice none 0 0] TTab) = x := ⟨_, rfl⟩
    have F3 : Fr [] w w3 := by rw [← hw3]; exact F2.out.alloc _
    have SN := Lib.hid (sane_any w3)
    replace F3 := Lib.hid F3; replace hv := Lib.hid hv
    have P3 := Pt.newA w2 TTab #[.int .i64 0, .int .i64 0, .int .i64 0, .slice none 0 0]
    have hw3' := Lib.hid hw3
    clear hw3
    go_wp2_with fail
    rw [hw3'.out]
    refine SN.out.mono ?_
    rintro e w9 ⟨rfl, f9⟩
    have F9 := Lib.hid (F3.out.trans f9)
    go_wp2_with fail
    go_ret
    exact ⟨rfl, F9.out⟩
end Go.Proofs.Ytnggimkkjdipmaa
