import Derived.Test.YtnggimkkjdipmaaTB23
namespace Go.Proofs.Ytnggimkkjdipmaa
open Go.RowKit
set_option linter.unusedVariables false
set_option linter.unusedSimpArgs false
set_option maxHeartbeats 16000000
set_option maxRecDepth 100000
def outsF (A : Tb) (l : List Int) : List Int := (A.run A.sr l).1
def passF (A B : Tb) (ws : List (List Int)) : Bool × Int :=
  if validT A && validT B && decide (A.ev = B.ev) && !ws.any (fun l => !A.worded l) then (!ws.any (fun l => !decide (outsF A l = outsF B l)), 0) else (false, 1)
theorem outsF_len (A : Tb) (l : List Int) : (outsF A l).length ≤ l.length := A.run_len l A.sr
theorem passes_any (A B : Tb) (va vb sv : Value) (ls : List (List Int)) (w : World) (hA : TIn w va A) (hB : TIn w vb B) (hS : SIn w sv ls) (hn : ls.length ≤ 9223372036854775807) :
    Calls Try.prog 29 #[va, vb, sv] w fun e w' => e = .returned (.tuple #[.bool (passF A B ls).1, .int .i64 (passF A B ls).2]) ∧ Fr [] w w' := by
  obtain ⟨ra, rfl, hRA⟩ := hA
  obtain ⟨rb, rfl, hRB⟩ := hB
  rw [show A.val ra = .agg #[.int .i64 A.st, .int .i64 A.ev, .int .i64 A.sr, ra] from rfl, show B.val rb = .agg #[.int .i64 B.st, .int .i64 B.ev, .int .i64 B.sr, rb] from rfl]
  have VA : ∀ W, Fr [] w W → Calls Try.prog 19 #[.agg #[.int .i64 A.st, .int .i64 A.ev, .int .i64 A.sr, ra]] W fun e w' => e = .returned (.bool (validT A)) ∧ Fr [] W w' := fun W f => valid_any A _ W ⟨ra, rfl, hRA.fr f⟩
  have VB : ∀ W, Fr [] w W → Calls Try.prog 19 #[.agg #[.int .i64 B.st, .int .i64 B.ev, .int .i64 B.sr, rb]] W fun e w' => e = .returned (.bool (validT B)) ∧ Fr [] W w' := fun W f => valid_any B _ W ⟨rb, rfl, hRB.fr f⟩
  obtain ⟨w1, hw1⟩ : ∃ x, w.alloc (.cells #[.int .i64 A.st, .int .i64 A.ev, .int .i64 A.sr, ra] TTab) = x := ⟨_, rfl⟩
  have P1 := Pt.newA w TTab #[.int .i64 A.st, .int .i64 A.ev, .int .i64 A.sr, ra]
  rw [hw1] at P1
  have F1 : Fr [] w w1 := by rw [← hw1]; exact (Fr.refl [] w).alloc _
  obtain ⟨b1, hb1⟩ : ∃ x, w.heap.size = x := ⟨_, rfl⟩
  rw [hb1] at P1
  obtain ⟨w2, hw2⟩ : ∃ x, w1.alloc (.cells #[.int .i64 B.st, .int .i64 B.ev, .int .i64 B.sr, rb] TTab) = x := ⟨_, rfl⟩
  have P2 := Pt.newA w1 TTab #[.int .i64 B.st, .int .i64 B.ev, .int .i64 B.sr, rb]
  rw [hw2] at P2
  have F2 : Fr [] w1 w2 := by rw [← hw2]; exact (Fr.refl [] w1).alloc _
  obtain ⟨b2, hb2⟩ : ∃ x, w1.heap.size = x := ⟨_, rfl⟩
  rw [hb2] at P2
  have Q1 := F2.pt P1 (by simp)
  have FA := F1.trans F2
  have k1 := Q1.cell
  have k2 := P2.cell
  have FS : ∀ W, Fr [] w W → Pt W b1 TTab [.int .i64 A.st, .int .i64 A.ev, .int .i64 A.sr, ra] → Calls Try.prog 64 #[sv, .func (.func 65) #[] #[.pointer (some ⟨b1, 0, none⟩)]] W fun e w' => e = .returned (.bool (ls.any fun l => !A.worded l)) ∧ Fr [] W w' := fun W f hp =>
    containsS_any sv ls W (hS.fr f) (by omega) _ _ _ cf_pass1 (fun W' u l f' _ hu => pass1_any A ra b1 u l W' ((hRA.fr f).fr f') (f'.pt hp (by simp)) hu)
  replace P1 := Lib.hid P1; replace P2 := Lib.hid P2; replace Q1 := Lib.hid Q1; replace F1 := Lib.hid F1; replace F2 := Lib.hid F2; replace FA := Lib.hid FA; replace VA := Lib.hid VA; replace VB := Lib.hid VB; replace FS := Lib.hid FS; replace hRA := Lib.hid hRA; replace hRB := Lib.hid hRB; replace hS := Lib.hid hS
  obtain ⟨X, hX⟩ : ∃ x, passF A B ls = x := ⟨_, rfl⟩
  rw [hX]
  have hX' := Lib.hid hX
  clear hX
  go_enter Try.func29, Try.ntmps29
  go_wp2_with fail
  refine (VA.out _ FA.out).mono ?_
  rintro e w3 ⟨rfl, f3⟩
  have F3 := FA.out.trans f3
  have Q31 := f3.pt Q1.out (by simp)
  have Q32 := f3.pt P2.out (by simp)
  have k31 := Q31.cell
  have k32 := Q32.cell
  clear k1 k2 hw1 hw2
  replace F3 := Lib.hid F3; replace f3 := Lib.hid f3; replace Q31 := Lib.hid Q31; replace Q32 := Lib.hid Q32
  cases hva : validT A
  · have hx : X = (false, 1) := by rw [← hX'.out]; simp [passF, hva]
    subst hx
    replace hva := Lib.hid hva
    go_wp2_with fail
    go_ret2
    exact ⟨rfl, F3.out⟩
  · have hVA := (validT_iff A).mp hva
    replace hva := Lib.hid hva
    go_wp2_with fail
    refine (VB.out _ F3.out).mono ?_
    rintro e w4 ⟨rfl, f4⟩
    have F4 := F3.out.trans f4
    have Q41 := f4.pt Q31.out (by simp)
    have Q42 := f4.pt Q32.out (by simp)
    have k41 := Q41.cell
    have k42 := Q42.cell
    clear k31 k32
    replace F4 := Lib.hid F4; replace f4 := Lib.hid f4; replace Q41 := Lib.hid Q41; replace Q42 := Lib.hid Q42; replace hVA := Lib.hid hVA
    cases hvb : validT B
    · have hx : X = (false, 1) := by rw [← hX'.out]; simp [passF, hvb]
      subst hx
      replace hvb := Lib.hid hvb
      go_wp2_with fail
      go_ret2
      exact ⟨rfl, F4.out⟩
    · have hVB := (validT_iff B).mp hvb
      replace hvb := Lib.hid hvb; replace hVB := Lib.hid hVB
      by_cases hev : A.ev = B.ev
      · have hevt : (A.ev != B.ev) = false := by simp [hev]
        have hev' := Lib.hid hev
        clear hev
        go_wp2_with fail
        refine (FS.out _ F4.out Q41.out).mono ?_
        rintro e w5 ⟨rfl, f5⟩
        have F5 := F4.out.trans f5
        have Q51 := f5.pt Q41.out (by simp)
        have Q52 := f5.pt Q42.out (by simp)
        clear k41 k42
        replace F5 := Lib.hid F5; replace f5 := Lib.hid f5; replace Q51 := Lib.hid Q51; replace Q52 := Lib.hid Q52
        cases hws : ls.any fun l => !A.worded l
        · have hx : X = (!ls.any (fun l => !decide (outsF A l = outsF B l)), 0) := by rw [← hX'.out]; unfold passF; rw [if_pos (by simp only [hva.out, hvb.out, hws, decide_eq_true hev'.out]; rfl)]
          subst hx
          replace hws := Lib.hid hws
          have hwA : ∀ l ∈ ls, A.worded l = true := fun l hl => by
            have := List.any_eq_false.mp hws.out l hl
            simpa using this
          have hwB : ∀ l ∈ ls, B.worded l = true := fun l hl => by
            have := hwA l hl
            unfold Tb.worded at this ⊢
            rw [← hev'.out]; exact this
          have hl200 : ∀ l ∈ ls, l.length ≤ 200 := fun l hl => by
            have := hwA l hl
            unfold Tb.worded at this
            simp only [Bool.and_eq_true, decide_eq_true_eq] at this
            exact this.1
          have RA : ∀ W u l, Fr [] w W → l ∈ ls → NIn W u l → Calls Try.prog 53 #[.agg #[.int .i64 A.st, .int .i64 A.ev, .int .i64 A.sr, ra], .int .i64 A.sr, u] W fun e w' => ∃ v s', e = .returned (.tuple #[v, .int .i64 s']) ∧ NIn w' v (outsF A l) ∧ Fr [] W w' := fun W u l f hm hu => (trun_any A _ A.sr u l W ⟨ra, rfl, hRA.out.fr f⟩ hVA.out hu (hwA l hm) hVA.out.sr).mono (fun e w' h => by
            obtain ⟨v, h1, h2, h3⟩ := h
            exact ⟨v, _, h1, h2, h3⟩)
          have RB : ∀ W u l, Fr [] w W → l ∈ ls → NIn W u l → Calls Try.prog 53 #[.agg #[.int .i64 B.st, .int .i64 B.ev, .int .i64 B.sr, rb], .int .i64 B.sr, u] W fun e w' => ∃ v s', e = .returned (.tuple #[v, .int .i64 s']) ∧ NIn w' v (outsF B l) ∧ Fr [] W w' := fun W u l f hm hu => (trun_any B _ B.sr u l W ⟨rb, rfl, hRB.out.fr f⟩ hVB.out hu (hwB l hm) hVB.out.sr).mono (fun e w' h => by
            obtain ⟨v, h1, h2, h3⟩ := h
            exact ⟨v, _, h1, h2, h3⟩)
          obtain ⟨os, caps, e, hl⟩ := hS.out
          subst e
          replace hl := Lib.hid hl; replace RA := Lib.hid RA; replace RB := Lib.hid RB; replace hwA := Lib.hid hwA; replace hwB := Lib.hid hwB; replace hl200 := Lib.hid hl200
          go_wp2_with fail
          go_loopg [36] (ls.length + 1) (fun k v wr => ∃ i : Nat, i ≤ ls.length ∧ k + i = ls.length + 1 ∧ v = .int .i64 i ∧ (ls.take i).any (fun l => !decide (outsF A l = outsF B l)) = false ∧ Fr [] w5 wr)
          case atStart => exact ⟨0, by omega, by omega, rfl, by simp, Fr.refl _ _⟩
          case round =>
            obtain ⟨i, hi, hk, rfl, hni, hF⟩ := hrel
            by_cases hlt : i < ls.length
            · have hltI : (i : Int) < ls.length := by omega
              obtain ⟨b, off, u, rfl, hb, hc, hu⟩ := hl.out i hlt
              have FW := F5.out.trans hF
              have c1 := FW.cell (p := ⟨b, off + i, none⟩) hb (by simp)
              rw [hc] at c1
              have kk1 := (hF.pt Q51.out (by simp)).cell
              have hmem : ls[i] ∈ ls := List.getElem_mem hlt
              have hcallA := Lib.hid (RA.out wr u ls[i] FW hmem (hu.fr FW))
              have hnn : decide (outsF A ls[i] = outsF B ls[i]) = true → (ls.take (i + 1)).any (fun l => !decide (outsF A l = outsF B l)) = false := fun h => by
                rw [List.take_succ_eq_append_getElem hlt, List.any_append, hni]
                simp at h
                simp [h]
              have hyes : decide (outsF A ls[i] = outsF B ls[i]) = false → ls.any (fun l => !decide (outsF A l = outsF B l)) = true := fun h => List.any_eq_true.mpr ⟨_, List.getElem_mem hlt, by rw [h]; rfl⟩
              have h200 := hl200.out _ hmem
              have hoL : (outsF A ls[i]).length ≤ 9223372036854775807 := by have := outsF_len A ls[i]; omega
              replace hni := Lib.hid hni; replace hnn := Lib.hid hnn; replace hyes := Lib.hid hyes; replace hF := Lib.hid hF; replace hu := Lib.hid hu; replace FW := Lib.hid FW; replace hmem := Lib.hid hmem; replace hoL := Lib.hid hoL; replace h200 := Lib.hid h200
              clear hc
              go_wp2_with fail
              refine hcallA.out.mono ?_
              rintro e w6 ⟨v6, s6, rfl, hn6, f6⟩
              have F6 := FW.out.trans f6
              have kk2 := (f6.pt (hF.out.pt Q52.out (by simp)) (by simp)).cell
              have hcallB := Lib.hid (RB.out w6 u ls[i] F6 hmem.out (hu.out.fr F6))
              clear kk1
              replace hn6 := Lib.hid hn6; replace F6 := Lib.hid F6; replace f6 := Lib.hid f6
              go_wp2_with fail
              refine hcallB.out.mono ?_
              rintro e w7 ⟨v7, s7, rfl, hn7, f7⟩
              have hcallE := Lib.hid (equal_any v6 v7 _ _ w7 (hn6.out.fr f7) hn7 hoL.out)
              clear kk2
              have F7 := Lib.hid ((hF.out.trans f6.out).trans f7)
              obtain ⟨py, hpy⟩ : ∃ t, decide (outsF A ls[i] = outsF B ls[i]) = t := ⟨_, rfl⟩
              rw [hpy] at hcallE hnn hyes
              replace hn7 := Lib.hid hn7; replace f7 := Lib.hid f7
              clear hpy
              go_wp2_with fail
              refine hcallE.out.mono ?_
              rintro e w8 ⟨rfl, f8⟩
              have F8 := Lib.hid (F7.out.trans f8)
              cases py
              · have hy := hyes.out rfl
                replace hy := Lib.hid hy
                go_wp2_with fail
                go_ret2
                exact ⟨by rw [hy.out]; rfl, F5.out.trans F8.out⟩
              · go_wp2_with fail
                go_roundg (gk - 1)
                case measure => omega
                case rel => exact ⟨i + 1, by omega, by omega, by go_num, hnn.out trivial, F8.out⟩
            · have hltI : ¬ (i : Int) < ls.length := by omega
              have hid : i = ls.length := by omega
              subst hid
              rw [List.take_length] at hni
              replace hni := Lib.hid hni; replace hF := Lib.hid hF
              go_wp2_with fail
              go_ret2
              exact ⟨by rw [hni.out]; rfl, F5.out.trans hF.out⟩
        · have hx : X = (false, 1) := by rw [← hX'.out]; unfold passF; rw [if_neg (by simp only [hva.out, hvb.out, hws, decide_eq_true hev'.out]; simp)]
          subst hx
          replace hws := Lib.hid hws
          go_wp2_with fail
          go_ret2
          exact ⟨rfl, F5.out⟩
      · have hx : X = (false, 1) := by rw [← hX'.out]; simp [passF, hev]
        subst hx
        have hevt : (A.ev != B.ev) = true := by simp [hev]
        have hev' := Lib.hid hev
        clear hev
        go_wp2_with fail
        go_ret2
        exact ⟨rfl, F4.out⟩
end Go.Proofs.Ytnggimkkjdipmaa
