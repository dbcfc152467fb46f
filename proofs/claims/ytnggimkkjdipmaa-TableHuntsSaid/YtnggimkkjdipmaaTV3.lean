import Derived.Test.YtnggimkkjdipmaaTV2
import Derived.Test.YtnggimkkjdipmaaTW3
namespace Go.Proofs.Ytnggimkkjdipmaa
open Go.RowKit
set_option linter.unusedVariables false
set_option linter.unusedSimpArgs false
set_option maxHeartbeats 16000000
set_option maxRecDepth 100000
/-! ### The law TableHunts -/
theorem thunts_any (T : Tb) (va : Value) (n : Int) (hn : -9223372036854775808 ≤ n ∧ n ≤ 9223372036854775807) (w : World) (hA : TIn w va T) :
    Calls Try.prog 15 #[va, .int .i64 n] w fun e w' => e = .returned (.bool true) ∧ Fr [] w w' := by
  obtain ⟨ra, rfl, hRA⟩ := hA
  rw [show T.val ra = .agg #[.int .i64 T.st, .int .i64 T.ev, .int .i64 T.sr, ra] from rfl]
  obtain ⟨ora, nra, cra, rfl⟩ : ∃ o n c, ra = .slice o n c := by obtain ⟨o, c, e, _⟩ := hRA; exact ⟨_, _, _, e⟩
  obtain ⟨w1, hw1⟩ : ∃ x, w.alloc (.cells #[.int .i64 T.st, .int .i64 T.ev, .int .i64 T.sr, .slice ora nra cra] TTab) = x := ⟨_, rfl⟩
  have P1 := Pt.newA w TTab #[.int .i64 T.st, .int .i64 T.ev, .int .i64 T.sr, .slice ora nra cra]
  rw [hw1] at P1
  have F1 : Fr [] w w1 := by rw [← hw1]; exact (Fr.refl [] w).alloc _
  obtain ⟨b1, hb1⟩ : ∃ x, w.heap.size = x := ⟨_, rfl⟩
  rw [hb1] at P1
  have k1 := P1.cell
  have MT : ∀ W, Fr [] w W → Calls Try.prog 35 #[.agg #[.int .i64 T.st, .int .i64 T.ev, .int .i64 T.sr, .slice ora nra cra]] W fun e w' => (∃ o c, e = .returned (.tuple #[.slice o (missF T).1.length c, .int .i64 (missF T).2])) ∧ Fr [] W w' := fun W f => (Missing_any T _ W ⟨_, rfl, hRA.fr f⟩).mono fun e w' ⟨ov, h1, h2, h3⟩ => by
    obtain ⟨o, c, rfl, _⟩ := h2
    exact ⟨⟨o, c, h1⟩, h3⟩
  have SN := fun (W : World) => sane_any W
  have LA : ∀ W, Fr [] w W → Calls Try.prog 31 #[.agg #[.int .i64 T.st, .int .i64 T.ev, .int .i64 T.sr, .slice ora nra cra]] W (LeastR T W) := fun W f => Least_any T _ W ⟨_, rfl, hRA.fr f⟩
  have SU : ∀ W, Fr [] w W → Calls Try.prog 46 #[.agg #[.int .i64 T.st, .int .i64 T.ev, .int .i64 T.sr, .slice ora nra cra]] W (CvR (suiteF T).1 (suiteF T).2 W) := fun W f => Suite_any T _ W ⟨_, rfl, hRA.fr f⟩
  have MS : ∀ W, Fr [] w W → Calls Try.prog 48 #[.agg #[.int .i64 T.st, .int .i64 T.ev, .int .i64 T.sr, .slice ora nra cra]] W fun e w' => e = .returned (.tuple #[.int .i64 (mutsF T).1, .int .i64 (mutsF T).2]) ∧ Fr [] W w' := fun W f => Mutants_any T _ W ⟨_, rfl, hRA.fr f⟩
  have MU : ∀ W (k : Int), Fr [] w W → -9223372036854775808 ≤ k ∧ k ≤ 9223372036854775807 → Calls Try.prog 38 #[.agg #[.int .i64 T.st, .int .i64 T.ev, .int .i64 T.sr, .slice ora nra cra], .int .i64 k] W (MutR (mutantF T k).1 (mutantF T k).2 W) := fun W k f hk => Mutant_any T _ k hk W ⟨_, rfl, hRA.fr f⟩
  have PA : ∀ W (X : Tb) rx sv ls, Fr [] w W → RIn W rx X.rows → SIn W sv ls → ls.length ≤ 9223372036854775807 → Calls Try.prog 29 #[.agg #[.int .i64 T.st, .int .i64 T.ev, .int .i64 T.sr, .slice ora nra cra], .agg #[.int .i64 X.st, .int .i64 X.ev, .int .i64 X.sr, rx], sv] W fun e w' => e = .returned (.tuple #[.bool (passF T X ls).1, .int .i64 (passF T X ls).2]) ∧ Fr [] W w' := fun W X rx sv ls f hx hs hl => passes_any T X _ _ sv ls W ⟨_, rfl, hRA.fr f⟩ ⟨rx, rfl, hx⟩ hs hl
  have AL : ∀ W (X : Tb) rx, Fr [] w W → RIn W rx X.rows → Calls Try.prog 25 #[.agg #[.int .i64 T.st, .int .i64 T.ev, .int .i64 T.sr, .slice ora nra cra], .agg #[.int .i64 X.st, .int .i64 X.ev, .int .i64 X.sr, rx]] W fun e w' => e = .returned (.tuple #[.bool (alikeF T X).1, .int .i64 (alikeF T X).2]) ∧ Fr [] W w' := fun W X rx f hx => alike_any T X _ _ W ⟨_, rfl, hRA.fr f⟩ ⟨rx, rfl, hx⟩
  obtain ⟨⟨m1, e1⟩, hm1⟩ : ∃ x, missF T = x := ⟨_, rfl⟩
  rw [hm1] at MT
  dsimp only at MT
  obtain ⟨l1, hl1⟩ : ∃ x, m1.length = x := ⟨_, rfl⟩
  rw [hl1] at MT
  have hb1' : l1 ≤ 1000 := by
    rw [← hl1]
    have := missF_len' T
    rw [hm1] at this
    exact this
  replace P1 := Lib.hid P1; replace F1 := Lib.hid F1; replace MT := Lib.hid MT; replace SN := Lib.hid SN; replace LA := Lib.hid LA; replace SU := Lib.hid SU; replace MS := Lib.hid MS; replace MU := Lib.hid MU; replace PA := Lib.hid PA; replace AL := Lib.hid AL; replace hRA := Lib.hid hRA; replace hm1 := Lib.hid hm1; replace hl1 := Lib.hid hl1; replace hn := Lib.hid hn
  go_enter Try.func15, Try.ntmps15
  go_wp2_with fail
  refine (MT.out _ F1.out).mono ?_
  rintro e w4 ⟨⟨o1, c1, rfl⟩, f4⟩
  have F4 := F1.out.trans f4
  have Q4 := f4.pt P1.out (by simp)
  clear k1 hb1 hw1
  have hv1 := hm1.out
  unfold missF at hv1
  cases hvT : validT T
  · as_aux_lemma =>
    rw [hvT] at hv1
    obtain ⟨rfl, rfl⟩ : [] = m1 ∧ 1 = e1 := by simpa using hv1
    have FL := F4
    clear hv1
    replace f4 := Lib.hid f4; replace F4 := Lib.hid F4; replace Q4 := Lib.hid Q4; replace FL := Lib.hid FL; replace hvT := Lib.hid hvT
    go_wp2_with fail
    refine (SN.out _).mono ?_
    rintro e w9 ⟨rfl, f9⟩
    have GF := Fr.trans FL.out f9
    replace f9 := Lib.hid f9; replace GF := Lib.hid GF
    go_wp2_with fail
    go_ret
    exact ⟨rfl, GF.out⟩
  · rw [hvT, if_pos rfl] at hv1
    obtain ⟨hw1, rfl⟩ : missL T = m1 ∧ 0 = e1 := by simpa using hv1
    clear hv1
    by_cases hl : 0 < l1
    · as_aux_lemma =>
      have hlI : (0 : Int) < (l1 : Int) := by omega
      have FL := F4
      replace f4 := Lib.hid f4; replace F4 := Lib.hid F4; replace Q4 := Lib.hid Q4; replace FL := Lib.hid FL; replace hvT := Lib.hid hvT; replace hw1 := Lib.hid hw1
      go_wp2_with fail
      refine (SN.out _).mono ?_
      rintro e w9 ⟨rfl, f9⟩
      have GF := Fr.trans FL.out f9
      replace f9 := Lib.hid f9; replace GF := Lib.hid GF
      go_wp2_with fail
      go_ret
      exact ⟨rfl, GF.out⟩
    · have h10 : l1 = 0 := by omega
      have hm10 : missL T = [] := by rw [hw1]; exact List.eq_nil_of_length_eq_zero (by rw [hl1.out]; exact h10)
      subst h10
      have kq := Q4.cell
      clear hw1 hl hb1'
      have hVT := (validT_iff T).mp hvT
      have C5 := LA.out _ F4
      replace f4 := Lib.hid f4; replace F4 := Lib.hid F4; replace Q4 := Lib.hid Q4; replace hvT := Lib.hid hvT; replace hm10 := Lib.hid hm10; replace hVT := Lib.hid hVT; replace C5 := Lib.hid C5
      go_wp2_with fail
      refine C5.out.mono ?_
      rintro e w5 ⟨v5, s5, rfl, h5, f5⟩
      obtain ⟨rfl, r5, rfl, hr5⟩ : s5 = 0 ∧ TIn w5 v5 (leastT T) := by
        rcases h5 with ⟨_, h1, h2⟩ | ⟨h1, _⟩
        · exact ⟨h1, h2⟩
        · rw [hvT.out] at h1; cases h1
      have hfin := fun (hst : (leastT T).st = T.st) (x : Mut) (hx : x ∈ mutL T) => hunts_plain hVT.out hm10.out hst hx
      have hpos := mutL_pos hVT.out hm10.out
      have hmax := mutL_len hVT.out
      obtain ⟨M, hM⟩ : ∃ x, leastT T = x := ⟨_, rfl⟩
      rw [hM] at hr5 hfin ⊢
      obtain ⟨o5, c5, rfl, _⟩ := hr5
      obtain ⟨n5, hn5⟩ : ∃ x, M.rows.length = x := ⟨_, rfl⟩
      rw [show M.val (.slice o5 M.rows.length c5) = .agg #[.int .i64 M.st, .int .i64 M.ev, .int .i64 M.sr, .slice o5 M.rows.length c5] from rfl, hn5]
      have F5 := F4.out.trans f5
      have Q5 := f5.pt Q4.out (by simp)
      obtain ⟨w6, hw6⟩ : ∃ x, w5.alloc (.cells #[.int .i64 M.st, .int .i64 M.ev, .int .i64 M.sr, .slice o5 n5 c5] TTab) = x := ⟨_, rfl⟩
      have P6 := Pt.newA w5 TTab #[.int .i64 M.st, .int .i64 M.ev, .int .i64 M.sr, .slice o5 n5 c5]
      rw [hw6] at P6
      have F6 : Fr [] w5 w6 := by rw [← hw6]; exact (Fr.refl [] w5).alloc _
      obtain ⟨b6, hb6⟩ : ∃ x, w5.heap.size = x := ⟨_, rfl⟩
      rw [hb6] at P6
      have F6' := F5.trans F6
      have Q6 := F6.pt Q5 (by simp)
      clear kq
      have kq := Q6.cell
      have C7 := SU.out _ F6'
      clear h5
      replace f5 := Lib.hid f5; replace F5 := Lib.hid F5; replace Q5 := Lib.hid Q5; replace P6 := Lib.hid P6; replace F6 := Lib.hid F6; replace F6' := Lib.hid F6'; replace Q6 := Lib.hid Q6; replace hM := Lib.hid hM; replace hn5 := Lib.hid hn5; replace hfin := Lib.hid hfin; replace C7 := Lib.hid C7; replace hpos := Lib.hid hpos; replace hmax := Lib.hid hmax
      go_wp2_with fail
      refine C7.out.mono ?_
      rintro e w7 ⟨v7, rfl, hs7, f7⟩
      have F7 := F6'.out.trans f7
      have Q7 := f7.pt Q6.out (by simp)
      have P7 := f7.pt P6.out (by simp)
      clear kq hb6 hw6
      have kq := Q7.cell
      have kp := P7.cell
      have hsf : suiteF T = (if 3000 < (suiteL M (tellsOf M)).length then ([], 2) else (suiteL M (tellsOf M), 0)) := by
        unfold suiteF
        rw [hvT.out, if_pos rfl, hM.out]
      by_cases hbig : 3000 < (suiteL M (tellsOf M)).length
      · as_aux_lemma =>
        rw [if_pos hbig] at hsf
        rw [hsf]
        dsimp only
        have FL := F7
        replace f7 := Lib.hid f7; replace F7 := Lib.hid F7; replace Q7 := Lib.hid Q7; replace P7 := Lib.hid P7; replace hsf := Lib.hid hsf; replace hs7 := Lib.hid hs7; replace FL := Lib.hid FL; replace hbig := Lib.hid hbig
        go_wp2_with fail
        refine (SN.out _).mono ?_
        rintro e w9 ⟨rfl, f9⟩
        have GF := Fr.trans FL.out f9
        replace f9 := Lib.hid f9; replace GF := Lib.hid GF
        go_wp2_with fail
        go_ret
        exact ⟨rfl, GF.out⟩
      · rw [if_neg hbig] at hsf
        rw [hsf] at hs7 ⊢
        dsimp only at hs7 ⊢
        by_cases hle : M.st = T.st
        · have hneB : (M.st != T.st) = false := by simpa using hle
          have hfin2 := hfin.out hle
          have C8 := MS.out w7 F7
          have hmf : mutsF T = (((mutL T).length : Int), 0) := by unfold mutsF; rw [hvT.out, if_pos rfl]
          rw [hmf] at C8
          dsimp only at C8
          obtain ⟨L, hL⟩ : ∃ x, (mutL T).length = x := ⟨_, rfl⟩
          rw [hL] at C8
          have hLp : (1 : Int) ≤ (L : Int) := by have := hpos.out; omega
          have hLm : (L : Int) ≤ 100000 := by have := hmax.out; omega
          have hLn : ¬ (L : Int) < 1 := by omega
          replace f7 := Lib.hid f7; replace F7 := Lib.hid F7; replace Q7 := Lib.hid Q7; replace P7 := Lib.hid P7; replace hsf := Lib.hid hsf; replace hs7 := Lib.hid hs7; replace hbig := Lib.hid hbig; replace hfin2 := Lib.hid hfin2; replace C8 := Lib.hid C8; replace hmf := Lib.hid hmf; replace hL := Lib.hid hL; replace hle := Lib.hid hle
          go_wp2_with fail
          refine C8.out.mono ?_
          rintro e w8 ⟨rfl, f8⟩
          have F8 := F7.out.trans f8
          have Q8 := f8.pt Q7.out (by simp)
          clear kq kp
          have KW : ∀ W, Fr [] w8 W → (W.cell? ⟨b1, 0, none⟩ = some (.int .i64 T.st) ∧ W.cell? ⟨b1, 1, none⟩ = some (.int .i64 T.ev) ∧ W.cell? ⟨b1, 2, none⟩ = some (.int .i64 T.sr) ∧ W.cell? ⟨b1, 3, none⟩ = some (.slice ora nra cra)) := fun W f => by
            have p := (f.pt Q8 (by simp)).cell
            exact ⟨p 0, p 1, p 2, p 3⟩
          have MD : ∀ W, Fr [] w8 W → Calls Try.prog 50 #[.int .i64 n, .int .i64 L] W fun e w' => (∃ k : Int, e = .returned (.int .i64 k) ∧ 0 ≤ k ∧ k < L) ∧ Fr [] W w' := fun W f => rmod_any n L W hn.out hLp hLm
          have MX : ∀ W (k : Int), Fr [] w8 W → 0 ≤ k → k < L → Calls Try.prog 38 #[.agg #[.int .i64 T.st, .int .i64 T.ev, .int .i64 T.sr, .slice ora nra cra], .int .i64 k] W fun e w' => (∃ o n c x, x ∈ mutL T ∧ e = .returned (.tuple #[.agg #[.int .i64 T.st, .int .i64 T.ev, .int .i64 T.sr, .slice o n c], .int .i64 0]) ∧ RInB (fun b => W.heap.size ≤ b) w' (.slice o n c) (T.chg x).rows) ∧ Fr [] W w' := fun W k f h0 h1 => by
            have h2 := MU.out W k (F8.trans f) (by omega)
            have hkL : k.toNat < (mutL T).length := by have := hL.out; omega
            have hmt : mutantF T k = (T.chg ((mutL T)[k.toNat]), 0) := by
              unfold mutantF
              rw [hvT.out, if_pos rfl, if_pos h0, List.getElem?_eq_getElem hkL]
            rw [hmt] at h2
            exact h2.mono fun e w' ⟨rv, us, bo, bs, g1, g2, g3⟩ => by
              have g4 := g2.rinb
              obtain ⟨o, c, hrv, _⟩ := id g4
              subst hrv
              exact ⟨⟨_, _, _, _, List.getElem_mem hkL, g1, g4⟩, g3⟩
          obtain ⟨ka1, ka2, ka3, ka4⟩ := KW w8 (Fr.refl _ _)
          replace f8 := Lib.hid f8; replace F8 := Lib.hid F8; replace Q8 := Lib.hid Q8; replace KW := Lib.hid KW; replace MD := Lib.hid MD; replace MX := Lib.hid MX
          go_upto_region 11 with fail
          go_cut [11, 12] from 73 to 80 (fun v11 v12 wx => ∃ (b12 : Nat) (ox : Option Addr) (nx cx : Nat) (x : Mut), v11 = .int .i64 0 ∧ v12 = .pointer (some ⟨b12, 0, none⟩) ∧ x ∈ mutL T ∧ Pt wx b12 TTab [.int .i64 T.st, .int .i64 T.ev, .int .i64 T.sr, .slice ox nx cx] ∧ RIn wx (.slice ox nx cx) (T.chg x).rows ∧ Fr [] w8 wx)
          case first =>
            as_aux_lemma =>
            go_region_held3 (fun W => W.cell? ⟨b1, 0, none⟩ = some (.int .i64 T.st) ∧ W.cell? ⟨b1, 1, none⟩ = some (.int .i64 T.ev) ∧ W.cell? ⟨b1, 2, none⟩ = some (.int .i64 T.sr) ∧ W.cell? ⟨b1, 3, none⟩ = some (.slice ora nra cra))
              ((refine KW.out _ ?_; (repeat (first | exact Fr.refl _ _ | exact G10.out | exact G9.out | refine Fr.drew ?_ | refine Fr.alloc ?_ _ | refine Fr.setCell ?_ (.inr (by first | (have h9 := G9.out.size; have h10 := G10.out.size; simp; omega) | (have h9 := G9.out.size; simp; omega) | (simp; done))) _))))
              ((first
                | (go_at_call 50; with_reducible refine Calls.mono (MD.out _ ?hfr) ?_; (case hfr => (repeat (first | exact Fr.refl _ _ | exact G10.out | exact G9.out | refine Fr.drew ?_ | refine Fr.alloc ?_ _ | refine Fr.setCell ?_ (.inr (by first | (have h9 := G9.out.size; have h10 := G10.out.size; simp; omega) | (have h9 := G9.out.size; simp; omega) | (simp; done))) _))); rintro e w9 ⟨⟨k, rfl, hk0, hk1⟩, f9⟩; have G9 := Lib.hid (Fr.trans (show Fr [] w8 _ by (repeat (first | exact Fr.refl _ _ | exact G10.out | exact G9.out | refine Fr.drew ?_ | refine Fr.alloc ?_ _ | refine Fr.setCell ?_ (.inr (by first | (have h9 := G9.out.size; have h10 := G10.out.size; simp; omega) | (have h9 := G9.out.size; simp; omega) | (simp; done))) _))) f9); (first | (have pz9 := f9.pt (Pt.newA w8 TTab #[.int .i64 0, .int .i64 0, .int .i64 0, .slice none 0 0]).drew (by simp); replace pz9 := Lib.hid pz9) | skip); replace f9 := Lib.hid f9; replace hk0 := Lib.hid hk0; replace hk1 := Lib.hid hk1)
                | (go_at_call 38; with_reducible refine Calls.mono (MX.out _ k ?hfr hk0.out hk1.out) ?_; (case hfr => (repeat (first | exact Fr.refl _ _ | exact G10.out | exact G9.out | refine Fr.drew ?_ | refine Fr.alloc ?_ _ | refine Fr.setCell ?_ (.inr (by first | (have h9 := G9.out.size; have h10 := G10.out.size; simp; omega) | (have h9 := G9.out.size; simp; omega) | (simp; done))) _))); rintro e w10 ⟨⟨ox, nx, cx, x, hx, rfl, hrx⟩, f10⟩; have G10 := Lib.hid (Fr.trans (show Fr [] w8 _ by (repeat (first | exact Fr.refl _ _ | exact G10.out | exact G9.out | refine Fr.drew ?_ | refine Fr.alloc ?_ _ | refine Fr.setCell ?_ (.inr (by first | (have h9 := G9.out.size; have h10 := G10.out.size; simp; omega) | (have h9 := G9.out.size; simp; omega) | (simp; done))) _))) f10); (first | (have pz10 := f10.pt pz9.out (by simp); have cz := pz10.cell; have zz := pz10.free; replace pz10 := Lib.hid pz10) | (have pz10 := f10.pt (Pt.newA w9 TTab #[.int .i64 0, .int .i64 0, .int .i64 0, .slice none 0 0]) (by simp); have cz := pz10.cell; have zz := pz10.free; replace pz10 := Lib.hid pz10) | skip); replace f10 := Lib.hid f10; replace hx := Lib.hid hx; replace hrx := Lib.hid hrx)))
            · go_wp2_with fail
              go_meet
              case rel => exact ⟨_, _, _, _, x, rfl, rfl, hx.out, Pt.newA w10 TTab #[.int .i64 T.st, .int .i64 T.ev, .int .i64 T.sr, .slice ox nx cx], hrx.out.rin.fr ((Fr.refl _ _).alloc _), G10.out.alloc _⟩
            · go_wp2_with fail
              go_meet
              case rel => exact ⟨_, _, _, _, x, rfl, rfl, hx.out, by simpa using ((((pz10.out.set 0 (.int .i64 T.st)).set 1 (.int .i64 T.ev)).set 2 (.int .i64 T.sr)).set 3 (.slice ox nx cx)), (hrx.out.fr (q' := fun _ => True) (((((Fr.refl [w9.heap.size] w10).setCell (p := ⟨w9.heap.size, 0, none⟩) (.inl (by simp)) _).setCell (p := ⟨w9.heap.size, 1, none⟩) (.inl (by simp)) _).setCell (p := ⟨w9.heap.size, 2, none⟩) (.inl (by simp)) _).setCell (p := ⟨w9.heap.size, 3, none⟩) (.inl (by simp)) _) (fun b _ hq => ⟨fun hm => by simp at hm; subst hm; simp at hq; omega, trivial⟩)).rin, G10.out.step (((((Fr.refl [w9.heap.size] w10).setCell (p := ⟨w9.heap.size, 0, none⟩) (.inl (by simp)) _).setCell (p := ⟨w9.heap.size, 1, none⟩) (.inl (by simp)) _).setCell (p := ⟨w9.heap.size, 2, none⟩) (.inl (by simp)) _).setCell (p := ⟨w9.heap.size, 3, none⟩) (.inl (by simp)) _) (fun z hz => .inr (by have h9 := G9.out.size; simp at hz; omega))⟩
            · go_wp2_with fail
              go_meet
              case rel => exact ⟨_, _, _, _, x, rfl, rfl, hx.out, by simpa using ((((pz10.out.set 0 (.int .i64 T.st)).set 1 (.int .i64 T.ev)).set 2 (.int .i64 T.sr)).set 3 (.slice ox nx cx)), (hrx.out.fr (q' := fun _ => True) (((((Fr.refl [w8.heap.size] w10).setCell (p := ⟨w8.heap.size, 0, none⟩) (.inl (by simp)) _).setCell (p := ⟨w8.heap.size, 1, none⟩) (.inl (by simp)) _).setCell (p := ⟨w8.heap.size, 2, none⟩) (.inl (by simp)) _).setCell (p := ⟨w8.heap.size, 3, none⟩) (.inl (by simp)) _) (fun b _ hq => ⟨fun hm => by have := pz9.out.lt; simp at hm; subst hm; omega, trivial⟩)).rin, G10.out.step (((((Fr.refl [w8.heap.size] w10).setCell (p := ⟨w8.heap.size, 0, none⟩) (.inl (by simp)) _).setCell (p := ⟨w8.heap.size, 1, none⟩) (.inl (by simp)) _).setCell (p := ⟨w8.heap.size, 2, none⟩) (.inl (by simp)) _).setCell (p := ⟨w8.heap.size, 3, none⟩) (.inl (by simp)) _) (fun z hz => .inr (by have h9 := G9.out.size; simp at hz; omega))⟩
          case rest =>
            obtain ⟨b12, ox, nx, cx, x, rfl, rfl, hx, PX, hrx, GX⟩ := hcut
            obtain ⟨wx, rfl⟩ : ∃ y : World, y = wc := ⟨_, rfl⟩
            clear ka1 ka2 ka3 ka4 KW MD MX
            have F12 := F8.out.trans GX
            have Q12 := GX.pt Q8.out (by simp)
            have kq := Q12.cell
            have kx := PX.cell
            obtain ⟨hVX, hpa⟩ := hfin2.out x hx
            have hz : (alikeF T (T.chg x)).2 = 0 := by
              unfold alikeF ValidTwo
              rw [hvT.out, (validT_iff _).mpr hVX, decide_eq_true (show T.ev = (T.chg x).ev from rfl)]; rfl
            have hs12 := (hs7.out.fr f8.out).fr GX
            obtain ⟨⟨B, z⟩, hBz⟩ : ∃ y, alikeF T (T.chg x) = y := ⟨_, rfl⟩
            have C13 : Calls Try.prog 29 #[.agg #[.int .i64 T.st, .int .i64 T.ev, .int .i64 T.sr, .slice ora nra cra], .agg #[.int .i64 T.st, .int .i64 T.ev, .int .i64 T.sr, .slice ox nx cx], v7] wx fun e w' => e = .returned (.tuple #[.bool B, .int .i64 z]) ∧ Fr [] wx w' := by
              have h1 := PA.out wx (T.chg x) (.slice ox nx cx) v7 _ F12 hrx hs12 (by have := hbig.out; omega)
              rw [hpa, hBz] at h1
              exact h1
            have C14 : ∀ W, Fr [] wx W → Calls Try.prog 25 #[.agg #[.int .i64 T.st, .int .i64 T.ev, .int .i64 T.sr, .slice ora nra cra], .agg #[.int .i64 T.st, .int .i64 T.ev, .int .i64 T.sr, .slice ox nx cx]] W fun e w' => e = .returned (.tuple #[.bool B, .int .i64 z]) ∧ Fr [] W w' := fun W f => by
              have h1 := AL.out W (T.chg x) (.slice ox nx cx) (F12.trans f) (hrx.fr f)
              rw [hBz] at h1
              exact h1
            rw [hBz] at hz
            dsimp only at hz
            subst hz
            replace hx := Lib.hid hx; replace PX := Lib.hid PX; replace hrx := Lib.hid hrx; replace GX := Lib.hid GX; replace F12 := Lib.hid F12; replace Q12 := Lib.hid Q12; replace hVX := Lib.hid hVX; replace hpa := Lib.hid hpa; replace hs12 := Lib.hid hs12; replace hBz := Lib.hid hBz; replace C13 := Lib.hid C13; replace C14 := Lib.hid C14
            go_wp2_with fail
            refine C13.out.mono ?_
            rintro e w13 ⟨rfl, f13⟩
            have F13 := F12.out.trans f13
            have Q13 := f13.pt Q12.out (by simp)
            have R13 := f13.pt PX.out (by simp)
            clear kq kx
            have kq := Q13.cell
            have kx := R13.cell
            have C15 := C14.out w13 f13
            replace f13 := Lib.hid f13; replace F13 := Lib.hid F13; replace Q13 := Lib.hid Q13; replace R13 := Lib.hid R13; replace C15 := Lib.hid C15
            go_wp2_with fail
            refine C15.out.mono ?_
            rintro e w14 ⟨rfl, f14⟩
            have FL := F13.out.trans f14
            replace f14 := Lib.hid f14; replace FL := Lib.hid FL
            cases B
            all_goals
              go_wp2_with fail
              refine (SN.out _).mono ?_
              rintro e w9 ⟨rfl, f9⟩
              have GF := Fr.trans FL.out f9
              replace f9 := Lib.hid f9; replace GF := Lib.hid GF
              go_wp2_with fail
              go_ret
              exact ⟨rfl, GF.out⟩
        · as_aux_lemma =>
          have hneB : (M.st != T.st) = true := by simpa using hle
          have FL := F7
          replace f7 := Lib.hid f7; replace F7 := Lib.hid F7; replace Q7 := Lib.hid Q7; replace P7 := Lib.hid P7; replace hsf := Lib.hid hsf; replace hs7 := Lib.hid hs7; replace FL := Lib.hid FL; replace hbig := Lib.hid hbig; replace hle := Lib.hid hle
          go_wp2_with fail
          refine (SN.out _).mono ?_
          rintro e w9 ⟨rfl, f9⟩
          have GF := Fr.trans FL.out f9
          replace f9 := Lib.hid f9; replace GF := Lib.hid GF
          go_wp2_with fail
          go_ret
          exact ⟨rfl, GF.out⟩
end Go.Proofs.Ytnggimkkjdipmaa
