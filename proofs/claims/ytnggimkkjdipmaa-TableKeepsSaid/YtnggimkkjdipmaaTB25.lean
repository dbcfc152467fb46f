import Derived.Test.YtnggimkkjdipmaaTB24
namespace Go.Proofs.Ytnggimkkjdipmaa
open Go.RowKit
set_option linter.unusedVariables false
set_option linter.unusedSimpArgs false
set_option maxHeartbeats 16000000
set_option maxRecDepth 100000
theorem rpasses_any (A B : Tb) (va vb sv : Value) (ls : List (List Int)) (w : World) (hA : TIn w va A) (hB : TIn w vb B) (hS : SIn w sv ls) (hn : ls.length ≤ 9223372036854775807) (hnl : ∀ l ∈ ls, l.length ≤ 9223372036854775807) :
    Calls Try.prog 30 #[va, vb, sv] w fun e w' => e = .returned (.tuple #[.bool (passF A B ls).1, .int .i64 (passF A B ls).2]) ∧ Fr [] w w' := by
  obtain ⟨ra, rfl, hRA⟩ := hA
  obtain ⟨rb, rfl, hRB⟩ := hB
  rw [show A.val ra = .agg #[.int .i64 A.st, .int .i64 A.ev, .int .i64 A.sr, ra] from rfl, show B.val rb = .agg #[.int .i64 B.st, .int .i64 B.ev, .int .i64 B.sr, rb] from rfl]
  have VA : ∀ W, Fr [] w W → Calls Try.prog 20 #[.agg #[.int .i64 A.st, .int .i64 A.ev, .int .i64 A.sr, ra]] W fun e w' => e = .returned (.bool (validT A)) ∧ Fr [] W w' := fun W f => rvalid_any A _ W ⟨ra, rfl, hRA.fr f⟩
  have VB : ∀ W, Fr [] w W → Calls Try.prog 20 #[.agg #[.int .i64 B.st, .int .i64 B.ev, .int .i64 B.sr, rb]] W fun e w' => e = .returned (.bool (validT B)) ∧ Fr [] W w' := fun W f => rvalid_any B _ W ⟨rb, rfl, hRB.fr f⟩
  obtain ⟨w1, hw1⟩ : ∃ x, w.alloc (.cells #[.int .i64 A.st, .int .i64 A.ev, .int .i64 A.sr, ra] RTab) = x := ⟨_, rfl⟩
  have P1 := Pt.newA w RTab #[.int .i64 A.st, .int .i64 A.ev, .int .i64 A.sr, ra]
  rw [hw1] at P1
  have F1 : Fr [] w w1 := by rw [← hw1]; exact (Fr.refl [] w).alloc _
  obtain ⟨b1, hb1⟩ : ∃ x, w.heap.size = x := ⟨_, rfl⟩
  rw [hb1] at P1
  obtain ⟨w2, hw2⟩ : ∃ x, w1.alloc (.cells #[.int .i64 B.st, .int .i64 B.ev, .int .i64 B.sr, rb] RTab) = x := ⟨_, rfl⟩
  have P2 := Pt.newA w1 RTab #[.int .i64 B.st, .int .i64 B.ev, .int .i64 B.sr, rb]
  rw [hw2] at P2
  have F2 : Fr [] w1 w2 := by rw [← hw2]; exact (Fr.refl [] w1).alloc _
  obtain ⟨b2, hb2⟩ : ∃ x, w1.heap.size = x := ⟨_, rfl⟩
  rw [hb2] at P2
  have Q1 := F2.pt P1 (by simp)
  have FA := F1.trans F2
  have k1 := Q1.cell
  have k2 := P2.cell
  replace P1 := Lib.hid P1; replace P2 := Lib.hid P2; replace Q1 := Lib.hid Q1; replace F1 := Lib.hid F1; replace F2 := Lib.hid F2; replace FA := Lib.hid FA; replace VA := Lib.hid VA; replace VB := Lib.hid VB; replace hRA := Lib.hid hRA; replace hRB := Lib.hid hRB; replace hS := Lib.hid hS
  obtain ⟨X, hX⟩ : ∃ x, passF A B ls = x := ⟨_, rfl⟩
  rw [hX]
  have hX' := Lib.hid hX
  clear hX
  go_enter Try.func30, Try.ntmps30
  go_wp2_with fail
  refine (VA.out _ FA.out).mono ?_
  rintro e w3 ⟨rfl, f3⟩
  have F3 := FA.out.trans f3
  have Q31 := f3.pt Q1.out (by simp)
  have Q32 := f3.pt P2.out (by simp)
  have k31 := Q31.cell
  have k32 := Q32.cell
  clear k1 k2 hw1 hw2
  replace F3 := Lib.hid F3; replace f3 := Lib.hid f3; replace Q31 := Lib.hid Q31; replace Q32 := Lib.hid Q32
  cases hva : validT A
  · have hx : X = (false, 1) := by rw [← hX'.out]; simp [passF, hva]
    subst hx
    replace hva := Lib.hid hva
    go_wp2_with fail
    go_ret2
    exact ⟨rfl, F3.out⟩
  · have hVA := (validT_iff A).mp hva
    replace hva := Lib.hid hva
    go_wp2_with fail
    refine (VB.out _ F3.out).mono ?_
    rintro e w4 ⟨rfl, f4⟩
    have F4 := F3.out.trans f4
    have Q41 := f4.pt Q31.out (by simp)
    have Q42 := f4.pt Q32.out (by simp)
    have k41 := Q41.cell
    have k42 := Q42.cell
    clear k31 k32
    replace F4 := Lib.hid F4; replace f4 := Lib.hid f4; replace Q41 := Lib.hid Q41; replace Q42 := Lib.hid Q42; replace hVA := Lib.hid hVA
    cases hvb : validT B
    · have hx : X = (false, 1) := by rw [← hX'.out]; simp [passF, hvb]
      subst hx
      replace hvb := Lib.hid hvb
      go_wp2_with fail
      go_ret2
      exact ⟨rfl, F4.out⟩
    · have hVB := (validT_iff B).mp hvb
      replace hvb := Lib.hid hvb; replace hVB := Lib.hid hVB
      by_cases hev : A.ev = B.ev
      · have hevt : (A.ev != B.ev) = false := by simp [hev]
        have hev' := Lib.hid hev
        clear hev
        replace hnl := Lib.hid hnl
        obtain ⟨os, caps, e, hl⟩ := hS.out
        subst e
        have hwB : ∀ l, A.worded l = true → B.worded l = true := fun l h => by
          unfold Tb.worded at h ⊢
          rw [← hev'.out]; exact h
        have WD : ∀ W u l, l ∈ ls → NIn W u l → Calls Try.prog 54 #[u, .int .i64 A.ev] W fun e w' => e = .returned (.bool (A.worded l)) ∧ W = w' := fun W u l hm hu => (rword_any A.ev u l W hu (hnl.out l hm)).mono (fun e w' h => ⟨by rw [h.1, worded_eq], h.2⟩)
        have RA : ∀ W u l, Fr [] w W → A.worded l = true → NIn W u l → Calls Try.prog 55 #[.agg #[.int .i64 A.st, .int .i64 A.ev, .int .i64 A.sr, ra], .int .i64 A.sr, u] W fun e w' => ∃ v s', e = .returned (.tuple #[v, .int .i64 s']) ∧ NIn w' v (outsF A l) ∧ Fr [] W w' := fun W u l f hm hu => (rrun_any A _ A.sr u l W ⟨ra, rfl, hRA.out.fr f⟩ hVA.out hu hm hVA.out.sr).mono (fun e w' h => by
          obtain ⟨v, h1, h2, h3⟩ := h
          exact ⟨v, _, h1, h2, h3⟩)
        have RB : ∀ W u l, Fr [] w W → A.worded l = true → NIn W u l → Calls Try.prog 55 #[.agg #[.int .i64 B.st, .int .i64 B.ev, .int .i64 B.sr, rb], .int .i64 B.sr, u] W fun e w' => ∃ v s', e = .returned (.tuple #[v, .int .i64 s']) ∧ NIn w' v (outsF B l) ∧ Fr [] W w' := fun W u l f hm hu => (rrun_any B _ B.sr u l W ⟨rb, rfl, hRB.out.fr f⟩ hVB.out hu (hwB l hm) hVB.out.sr).mono (fun e w' h => by
          obtain ⟨v, h1, h2, h3⟩ := h
          exact ⟨v, _, h1, h2, h3⟩)
        replace hl := Lib.hid hl; replace RA := Lib.hid RA; replace RB := Lib.hid RB; replace WD := Lib.hid WD; replace hwB := Lib.hid hwB
        go_wp2_with fail
        clear k41 k42
        go_loopg [8, 9] (ls.length + 1) (fun k v8 v9 wr => ∃ i : Nat, i ≤ ls.length ∧ k + i = ls.length + 1 ∧ v9 = .int .i64 i ∧ v8 = .bool (!(ls.take i).any (fun l => !decide (outsF A l = outsF B l))) ∧ (ls.take i).any (fun l => !A.worded l) = false ∧ Fr [] w4 wr)
        case atStart => exact ⟨0, by omega, by omega, rfl, rfl, by simp, Fr.refl _ _⟩
        case round =>
          obtain ⟨i, hi, hk, rfl, rfl, hni, hF⟩ := hrel
          by_cases hlt : i < ls.length
          · have hltI : (i : Int) < ls.length := by omega
            obtain ⟨b, off, u, rfl, hb, hc, hu⟩ := hl.out i hlt
            have FW := F4.out.trans hF
            have PA := hF.pt Q41.out (by simp)
            have PB := hF.pt Q42.out (by simp)
            have hmem : ls[i] ∈ ls := List.getElem_mem hlt
            have SS : ∀ W, Fr [] wr W → W.cell? ⟨b, off + i, none⟩ = some u ∧ W.cell? ⟨b1, 0, none⟩ = some (.int .i64 A.st) ∧ W.cell? ⟨b1, 1, none⟩ = some (.int .i64 A.ev) ∧ W.cell? ⟨b1, 2, none⟩ = some (.int .i64 A.sr) ∧ W.cell? ⟨b1, 3, none⟩ = some ra ∧ W.cell? ⟨b2, 0, none⟩ = some (.int .i64 B.st) ∧ W.cell? ⟨b2, 1, none⟩ = some (.int .i64 B.ev) ∧ W.cell? ⟨b2, 2, none⟩ = some (.int .i64 B.sr) ∧ W.cell? ⟨b2, 3, none⟩ = some rb := fun W f => by
              have p := (f.pt PA (by simp)).cell
              have q := (f.pt PB (by simp)).cell
              exact ⟨by rw [(FW.trans f).cell (p := ⟨b, off + i, none⟩) hb (by simp)]; exact hc, p 0, p 1, p 2, p 3, q 0, q 1, q 2, q 3⟩
            have WQ : ∀ W, Fr [] wr W → Calls Try.prog 54 #[u, .int .i64 A.ev] W fun e w' => e = .returned (.bool (A.worded ls[i])) ∧ Fr [] wr w' := fun W f => (WD.out W u ls[i] hmem (hu.fr (FW.trans f))).mono (fun e w' h => ⟨h.1, h.2 ▸ f⟩)
            obtain ⟨wd, hwd⟩ : ∃ t, A.worded ls[i] = t := ⟨_, rfl⟩
            rw [hwd] at WQ
            have hni1 : wd = true → (ls.take (i + 1)).any (fun l => !A.worded l) = false := fun h => by
              rw [List.take_succ_eq_append_getElem hlt, List.any_append, hni]
              simp [hwd, h]
            have hbad : wd = false → X = (false, 1) := fun h => by
              rw [← hX'.out]; unfold passF
              rw [if_neg]
              have : (ls.any fun l => !A.worded l) = true := List.any_eq_true.mpr ⟨_, hmem, by rw [hwd, h]; rfl⟩
              rw [this]; simp
            have hstep : (ls.take (i + 1)).any (fun l => !decide (outsF A l = outsF B l)) = ((ls.take i).any (fun l => !decide (outsF A l = outsF B l)) || !decide (outsF A ls[i] = outsF B ls[i])) := by
              rw [List.take_succ_eq_append_getElem hlt, List.any_append]; simp
            obtain ⟨acc, hacc⟩ : ∃ t, (ls.take i).any (fun l => !decide (outsF A l = outsF B l)) = t := ⟨_, rfl⟩
            rw [hacc] at hstep ⊢
            obtain ⟨py, hpy⟩ : ∃ t, decide (outsF A ls[i] = outsF B ls[i]) = t := ⟨_, rfl⟩
            rw [hpy] at hstep
            have RQ : ∀ W, wd = true → Fr [] wr W → Calls Try.prog 55 #[.agg #[.int .i64 A.st, .int .i64 A.ev, .int .i64 A.sr, ra], .int .i64 A.sr, u] W fun e w' => ∃ v s', e = .returned (.tuple #[v, .int .i64 s']) ∧ NIn w' v (outsF A ls[i]) ∧ Fr [] wr w' := fun W h f => (RA.out W u ls[i] (FW.trans f) (hwd.trans h) (hu.fr (FW.trans f))).mono (fun e w' hh => by
              obtain ⟨v, s', h1, h2, h3⟩ := hh
              exact ⟨v, s', h1, h2, f.trans h3⟩)
            have RP : ∀ W, wd = true → Fr [] wr W → Calls Try.prog 55 #[.agg #[.int .i64 B.st, .int .i64 B.ev, .int .i64 B.sr, rb], .int .i64 B.sr, u] W fun e w' => ∃ v s', e = .returned (.tuple #[v, .int .i64 s']) ∧ NIn w' v (outsF B ls[i]) ∧ Fr [] W w' ∧ Fr [] wr w' := fun W h f => (RB.out W u ls[i] (FW.trans f) (hwd.trans h) (hu.fr (FW.trans f))).mono (fun e w' hh => by
              obtain ⟨v, s', h1, h2, h3⟩ := hh
              exact ⟨v, s', h1, h2, h3, f.trans h3⟩)
            have IQ : ∀ W v1 v2, wd = true → NIn W v1 (outsF A ls[i]) → NIn W v2 (outsF B ls[i]) → Calls Try.prog 21 #[v1, v2] W fun e w' => e = .returned (.bool py) ∧ Fr [] W w' := fun W v1 v2 h h1 h2 => (ints_any v1 v2 _ _ W h1 h2 (by
              have h5 := outsF_len A ls[i]
              have h6 := hnl.out _ hmem
              omega)).mono (fun e w' hh => ⟨by rw [hh.1, hpy], hh.2⟩)
            clear hc
            replace hni := Lib.hid hni; replace hni1 := Lib.hid hni1; replace hbad := Lib.hid hbad; replace hstep := Lib.hid hstep; replace hacc := Lib.hid hacc; replace hpy := Lib.hid hpy; replace hwd := Lib.hid hwd; replace RQ := Lib.hid RQ; replace RP := Lib.hid RP; replace IQ := Lib.hid IQ; replace WQ := Lib.hid WQ; replace SS := Lib.hid SS; replace PA := Lib.hid PA; replace PB := Lib.hid PB; replace FW := Lib.hid FW; replace hF := Lib.hid hF; replace hu := Lib.hid hu; replace hmem := Lib.hid hmem
            obtain ⟨s0, s1, s2, s3, s4, s5, s6, s7, s8⟩ := SS.out wr (Fr.refl _ _)
            go_upto_region 7 with fail
            clear s0 s1 s2 s3 s4 s5 s6 s7 s8
            go_region_held3 (fun W => W.cell? ⟨b, off + i, none⟩ = some u ∧ W.cell? ⟨b1, 0, none⟩ = some (.int .i64 A.st) ∧ W.cell? ⟨b1, 1, none⟩ = some (.int .i64 A.ev) ∧ W.cell? ⟨b1, 2, none⟩ = some (.int .i64 A.sr) ∧ W.cell? ⟨b1, 3, none⟩ = some ra ∧ W.cell? ⟨b2, 0, none⟩ = some (.int .i64 B.st) ∧ W.cell? ⟨b2, 1, none⟩ = some (.int .i64 B.ev) ∧ W.cell? ⟨b2, 2, none⟩ = some (.int .i64 B.sr) ∧ W.cell? ⟨b2, 3, none⟩ = some rb)
              (first | exact SS.out _ (Fr.refl _ _).drew | exact SS.out _ G6.out)
              ((first
                | (go_at_call 54; refine (WQ.out _ (Fr.refl _ _).drew).mono ?_; rintro e w6 ⟨rfl, G6⟩; replace G6 := Lib.hid G6)))
            cases wd
            · have hx := hbad.out (by first | rfl | trivial)
              replace hx := Lib.hid hx
              go_wp2_with fail
              go_ret2
              exact ⟨by rw [hx.out]; rfl, FW.out.trans G6.out⟩
            · go_upto_region 9 with fail
              go_region_held3 (fun W => W.cell? ⟨b, off + i, none⟩ = some u ∧ W.cell? ⟨b1, 0, none⟩ = some (.int .i64 A.st) ∧ W.cell? ⟨b1, 1, none⟩ = some (.int .i64 A.ev) ∧ W.cell? ⟨b1, 2, none⟩ = some (.int .i64 A.sr) ∧ W.cell? ⟨b1, 3, none⟩ = some ra ∧ W.cell? ⟨b2, 0, none⟩ = some (.int .i64 B.st) ∧ W.cell? ⟨b2, 1, none⟩ = some (.int .i64 B.ev) ∧ W.cell? ⟨b2, 2, none⟩ = some (.int .i64 B.sr) ∧ W.cell? ⟨b2, 3, none⟩ = some rb)
                (first | exact SS.out _ G6.out.drew | exact SS.out _ G7.out)
                ((first
                  | (go_at_call 55; refine (RQ.out _ (by first | rfl | trivial) (G6.out.drew)).mono ?_; rintro e w7 ⟨v7, s7, rfl, n7, G7⟩; replace G7 := Lib.hid G7; replace n7 := Lib.hid n7)))
              go_upto_region 10 with fail
              go_region_held3 (fun W => W.cell? ⟨b, off + i, none⟩ = some u ∧ W.cell? ⟨b1, 0, none⟩ = some (.int .i64 A.st) ∧ W.cell? ⟨b1, 1, none⟩ = some (.int .i64 A.ev) ∧ W.cell? ⟨b1, 2, none⟩ = some (.int .i64 A.sr) ∧ W.cell? ⟨b1, 3, none⟩ = some ra ∧ W.cell? ⟨b2, 0, none⟩ = some (.int .i64 B.st) ∧ W.cell? ⟨b2, 1, none⟩ = some (.int .i64 B.ev) ∧ W.cell? ⟨b2, 2, none⟩ = some (.int .i64 B.sr) ∧ W.cell? ⟨b2, 3, none⟩ = some rb)
                (first | exact SS.out _ G7.out.drew | exact SS.out _ G9.out)
                ((first
                  | (go_at_call 55; refine (RP.out _ (by first | rfl | trivial) (G7.out.drew)).mono ?_; rintro e w9 ⟨v9, s9, rfl, n9, g9, G9⟩; replace G9 := Lib.hid G9; replace g9 := Lib.hid g9; replace n9 := Lib.hid n9)))
              have n79 := n7.out.fr (((Fr.refl [] w7).drew).trans g9.out)
              have IC := Lib.hid (IQ.out w9 v7 v9 (by first | rfl | trivial) n79 n9.out)
              replace n79 := Lib.hid n79
              cases acc
              · go_wp2_with fail
                refine IC.out.mono ?_
                rintro e w10 ⟨rfl, f10⟩
                have G10 := Lib.hid ((hF.out.trans G9.out).trans f10)
                go_wp2_with fail
                go_roundg (gk - 1)
                case measure => omega
                case rel => exact ⟨i + 1, by omega, by omega, by go_num, by rw [hstep.out]; simp, hni1.out (by first | rfl | trivial), G10.out⟩
              · have G10 := Lib.hid (hF.out.trans G9.out)
                go_wp2_with fail
                go_roundg (gk - 1)
                case measure => omega
                case rel => exact ⟨i + 1, by omega, by omega, by go_num, by rw [hstep.out]; rfl, hni1.out (by first | rfl | trivial), G10.out⟩
          · have hltI : ¬ (i : Int) < ls.length := by omega
            have hid : i = ls.length := by omega
            subst hid
            rw [List.take_length] at hni
            have hx : X = (!ls.any (fun l => !decide (outsF A l = outsF B l)), 0) := by rw [← hX'.out]; unfold passF; rw [if_pos (by simp only [hva.out, hvb.out, hni, decide_eq_true hev'.out]; rfl)]
            subst hx
            rw [List.take_length]
            replace hni := Lib.hid hni; replace hF := Lib.hid hF
            go_wp2_with fail
            go_ret2
            exact ⟨rfl, F4.out.trans hF.out⟩
      · have hx : X = (false, 1) := by rw [← hX'.out]; simp [passF, hev]
        subst hx
        have hevt : (A.ev != B.ev) = true := by simp [hev]
        have hev' := Lib.hid hev
        clear hev
        go_wp2_with fail
        go_ret2
        exact ⟨rfl, F4.out⟩
end Go.Proofs.Ytnggimkkjdipmaa
