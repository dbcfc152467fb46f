import Derived.Test.YtnggimkkjdipmaaTOpen
namespace Go.Proofs.Ytnggimkkjdipmaa
open Go.RowKit
set_option linter.unusedVariables false
set_option linter.unusedSimpArgs false
set_option maxHeartbeats 16000000
set_option maxRecDepth 100000
/-! #### two lists are one -/
theorem equal_any (v1 v2 : Value) (l1 l2 : List Int) (w : World) (h1 : NIn w v1 l1) (h2 : NIn w v2 l2) (hln : l1.length ≤ 9223372036854775807) :
    Calls Try.prog 66 #[v1, v2] w fun e w' => e = .returned (.bool (decide (l1 = l2))) ∧ Fr [] w w' := by
  have N1 := fun w' (f : Fr [] w w') => h1.fr f
  have N2 := fun w' (f : Fr [] w w') => h2.fr f
  obtain ⟨o1, cap1, rfl, hl1⟩ := h1
  obtain ⟨o2, cap2, rfl, hl2⟩ := h2
  by_cases hlen : l1.length = l2.length
  · have hne : ((l1.length : Int) != (l2.length : Int)) = false := by simp [hlen]
    have hno : ∀ i (h : i < l1.length) (h2 : i < l2.length), l1[i] ≠ l2[i] → decide (l1 = l2) = false := fun i h h2 hd => by
      rw [decide_eq_false_iff_not]; rintro rfl; exact hd rfl
    have hyes : (∀ i (h : i < l1.length) (h2 : i < l2.length), l1[i] = l2[i]) → decide (l1 = l2) = true := fun h => by
      rw [decide_eq_true_eq]
      exact List.ext_getElem hlen fun i h1 h2 => h i h1 h2
    obtain ⟨X, hX⟩ : ∃ X, decide (l1 = l2) = X := ⟨_, rfl⟩
    rw [hX] at hyes ⊢
    simp only [hX] at hno
    clear hX
    replace hl1 := Lib.hid hl1; replace hl2 := Lib.hid hl2; replace hno := Lib.hid hno; replace hyes := Lib.hid hyes; replace N1 := Lib.hid N1; replace N2 := Lib.hid N2
    have Hlen := Lib.hid hlen
    clear hlen
    go_enter Try.func66, Try.ntmps66
    go_wp2_with fail
    go_loopg [13] (l1.length + 1) (fun k v wr => ∃ i : Nat, i ≤ l1.length ∧ k + i = l1.length + 1 ∧ v = .int .i64 i ∧ Fr [] w wr ∧ ∀ i' (h : i' < l1.length) (h2 : i' < l2.length), i' < i → l1[i'] = l2[i'])
    case atStart => exact ⟨0, by omega, by omega, rfl, Fr.refl _ _, by omega⟩
    case round =>
      obtain ⟨i, hi, hk, rfl, hF, hok⟩ := hrel
      by_cases hlt : i < l1.length
      · have hltI : (i : Int) < l1.length := by omega
        have hlt2 : i < l2.length := by have := Hlen.out; omega
        have hltI2 : (i : Int) < l2.length := by omega
        obtain ⟨b1, off1, rfl, hb1, hc1⟩ := hl1.out i hlt
        obtain ⟨b2, off2, rfl, hb2, hc2⟩ := hl2.out i hlt2
        have c1 := hF.cell (p := ⟨b1, off1 + i, none⟩) hb1 (by simp)
        rw [hc1] at c1
        have c2 := hF.cell (p := ⟨b2, off2 + i, none⟩) hb2 (by simp)
        rw [hc2] at c2
        have no1 := hno.out i hlt hlt2
        have nx : l1[i] = l2[i] → ∀ i' (h : i' < l1.length) (h2 : i' < l2.length), i' < i + 1 → l1[i'] = l2[i'] := fun he i' h' h2' hlt' => by
          rcases (by omega : i' < i ∨ i' = i) with e | rfl
          · exact hok i' h' h2' e
          · exact he
        obtain ⟨x, hx⟩ : ∃ x, l1[i] = x := ⟨_, rfl⟩
        obtain ⟨y, hy⟩ : ∃ y, l2[i] = y := ⟨_, rfl⟩
        rw [hx] at c1
        rw [hy] at c2
        rw [hx, hy] at no1 nx
        replace no1 := Lib.hid no1; replace nx := Lib.hid nx; replace hok := Lib.hid hok; replace hF := Lib.hid hF
        clear hx hy hc1 hc2
        by_cases hxy : x = y
        · subst hxy
          have nx1 := Lib.hid (nx.out rfl)
          have hne2 : (x != x) = false := by simp
          go_wp2_with fail
          go_quiet (fail)
          go_wp2_with fail
          go_roundg (gk - 1)
          case measure => omega
          case rel => exact ⟨i + 1, by omega, by omega, by go_num, hF.out.drewN _, nx1.out⟩
        · have hne2 : (x != y) = true := by simpa using hxy
          have nn := Lib.hid (no1.out hxy)
          go_wp2_with fail
          go_quiet (fail)
          go_wp2_with fail
          go_ret
          exact ⟨ret_b nn.out.symm, hF.out.drewN _⟩
      · have hltI : ¬ (i : Int) < l1.length := by omega
        have yy := Lib.hid (hyes.out fun i' h' h2' => hok i' h' h2' (by omega))
        replace hok := Lib.hid hok; replace hF := Lib.hid hF
        go_wp2_with fail
        go_ret
        exact ⟨ret_b yy.out.symm, hF.out⟩
  · have hne : ((l1.length : Int) != (l2.length : Int)) = true := by simp; omega
    have hX : decide (l1 = l2) = false := by rw [decide_eq_false_iff_not]; rintro rfl; exact hlen rfl
    rw [hX]
    clear hX hl1 hl2 N1 N2
    go_enter Try.func66, Try.ntmps66
    go_wp2_with fail
    go_ret
    exact ⟨rfl, Fr.refl _ _⟩
/-- Words in memory. -/
def SIn (w : World) (v : Value) (l : List (List Int)) : Prop := ∃ o cap, v = .slice o l.length cap ∧ ∀ i (h : i < l.length), ∃ b off u, o = some ⟨b, off, none⟩ ∧ b < w.heap.size ∧ w.cell? ⟨b, off + i, none⟩ = some u ∧ NIn w u l[i]
theorem SIn.fr {w w' : World} {v : Value} {l : List (List Int)} (h : SIn w v l) (hf : Fr [] w w') : SIn w' v l := by
  obtain ⟨o, cap, h1, h2⟩ := h
  refine ⟨o, cap, h1, fun i hi => ?_⟩
  obtain ⟨b, off, u, e, hb, hc, hd⟩ := h2 i hi
  exact ⟨b, off, u, e, Nat.lt_of_lt_of_le hb hf.size, by rw [hf.cell (p := ⟨b, off + i, none⟩) hb (by simp)]; exact hc, hd.fr hf⟩
/-- A test of a word, handed to slices: what it answers in every world that grew. -/
theorem indexS_any (v : Value) (ls : List (List Int)) (w : World) (hD : SIn w v ls) (hn : ls.length ≤ 9223372036854775807) (fn : FuncId) (bs : Array Value) (p : List Int → Bool) (hcf : ∀ W args, (callFunc fn args).run Try.prog W = .ok (.enter fn args) W)
    (hp : ∀ W u l, Fr [] w W → l ∈ ls → NIn W u l → Calls Try.prog fn (#[u] ++ bs) W fun e w' => e = .returned (.bool (p l)) ∧ Fr [] W w') :
    Calls Try.prog 89 #[v, .func (.func fn) #[] bs] w fun e w' => (∃ k : Int, e = .returned (.int .i64 k) ∧ decide (0 ≤ k) = ls.any p) ∧ Fr [] w w' := by
  obtain ⟨o, cap, rfl, hl⟩ := hD
  replace hl := Lib.hid hl; replace hp := Lib.hid hp
  go_enter Try.func89, Try.ntmps89
  go_wp2_with fail
  go_loopg [8] (ls.length + 1) (fun k v wr => ∃ i : Nat, i ≤ ls.length ∧ k + i = ls.length + 1 ∧ v = .int .i64 i ∧ (ls.take i).any p = false ∧ Fr [] w wr)
  case atStart => exact ⟨0, by omega, by omega, rfl, by simp, Fr.refl _ _⟩
  case round =>
    obtain ⟨i, hi, hk, rfl, hni, hF⟩ := hrel
    by_cases hlt : i < ls.length
    · have hltI : (i : Int) < ls.length := by omega
      obtain ⟨b, off, u, rfl, hb, hc, hu⟩ := hl.out i hlt
      have c1 := hF.cell (p := ⟨b, off + i, none⟩) hb (by simp)
      rw [hc] at c1
      have hcall := Lib.hid (hp.out wr u ls[i] hF (List.getElem_mem hlt) (hu.fr hF))
      have hnn : p ls[i] = false → (ls.take (i + 1)).any p = false := fun h => by
        rw [List.take_succ_eq_append_getElem hlt, List.any_append, hni]
        simp [h]
      have hyes : p ls[i] = true → ls.any p = true := fun h => List.any_eq_true.mpr ⟨_, List.getElem_mem hlt, h⟩
      replace hni := Lib.hid hni; replace hnn := Lib.hid hnn; replace hyes := Lib.hid hyes; replace hF := Lib.hid hF; replace hu := Lib.hid hu
      obtain ⟨py, hpy⟩ : ∃ t, p ls[i] = t := ⟨_, rfl⟩
      rw [hpy] at hcall hnn hyes
      clear hpy hc
      go_wp2_with fail
      try rw [hcf]
      refine hcall.out.mono ?_
      rintro e w1 ⟨rfl, f1⟩
      have F1 := Lib.hid (hF.out.trans f1)
      cases py
      · go_wp2_with fail
        go_roundg (gk - 1)
        case measure => omega
        case rel => exact ⟨i + 1, by omega, by omega, by go_num, hnn.out trivial, F1.out⟩
      · go_wp2_with fail
        go_ret
        exact ⟨⟨i, rfl, by rw [hyes.out trivial]; simp⟩, F1.out⟩
    · have hltI : ¬ (i : Int) < ls.length := by omega
      have hid : i = ls.length := by omega
      subst hid
      rw [List.take_length] at hni
      replace hni := Lib.hid hni; replace hF := Lib.hid hF
      go_wp2_with fail
      go_ret
      exact ⟨⟨-1, rfl, by rw [hni.out]; rfl⟩, hF.out⟩
theorem containsS_any (v : Value) (ls : List (List Int)) (w : World) (hD : SIn w v ls) (hn : ls.length ≤ 9223372036854775807) (fn : FuncId) (bs : Array Value) (p : List Int → Bool) (hcf : ∀ W args, (callFunc fn args).run Try.prog W = .ok (.enter fn args) W)
    (hp : ∀ W u l, Fr [] w W → l ∈ ls → NIn W u l → Calls Try.prog fn (#[u] ++ bs) W fun e w' => e = .returned (.bool (p l)) ∧ Fr [] W w') :
    Calls Try.prog 64 #[v, .func (.func fn) #[] bs] w fun e w' => e = .returned (.bool (ls.any p)) ∧ Fr [] w w' := by
  have H := Lib.hid (indexS_any v ls w hD hn fn bs p hcf hp)
  clear hD hp
  go_enter Try.func64, Try.ntmps64
  go_wp2_with fail
  refine H.out.mono ?_
  rintro e w1 ⟨⟨k, rfl, hk⟩, hf⟩
  replace hk := Lib.hid hk; replace hf := Lib.hid hf
  go_wp2_with fail
  go_ret
  exact ⟨ret_b hk.out, hf.out⟩
theorem cf_pass1 : ∀ W args, (callFunc 65 args).run Try.prog W = .ok (.enter 65 args) W := by
  intro W args
  have hb : Try.f65.body.isNone = false := by kernel_rfl
  simp [callFunc, go_sem, Try.func65]
  rw [if_neg (by decide +kernel), if_neg (fun h => by rw [h] at hb; cases hb)]
theorem pass1_any (T : Tb) (r : Value) (b : Nat) (u : Value) (l : List Int) (w : World) (hT : RIn w r T.rows) (hP : Pt w b TTab [.int .i64 T.st, .int .i64 T.ev, .int .i64 T.sr, r]) (hD : NIn w u l) :
    Calls Try.prog 65 #[u, .pointer (some ⟨b, 0, none⟩)] w fun e w' => e = .returned (.bool (!T.worded l)) ∧ Fr [] w w' := by
  have W := Lib.hid (worded_any T (.agg #[.int .i64 T.st, .int .i64 T.ev, .int .i64 T.sr, r]) u l w ⟨r, rfl, hT⟩ hD)
  have k := hP.cell
  clear hT hP hD
  go_enter Try.func65, Try.ntmps65
  go_wp2_with fail
  refine W.out.mono ?_
  rintro e w1 ⟨rfl, f1⟩
  replace f1 := Lib.hid f1
  go_wp2_with fail
  go_ret
  exact ⟨rfl, f1.out⟩
end Go.Proofs.Ytnggimkkjdipmaa
namespace Go.Proofs.Ytnggimkkjdipmaa
open Go.RowKit
set_option linter.unusedVariables false
set_option linter.unusedSimpArgs false
set_option maxHeartbeats 16000000
set_option maxRecDepth 100000
def outsF (A : Tb) (l : List Int) : List Int := (A.run A.sr l).1
def passF (A B : Tb) (ws : List (List Int)) : Bool × Int :=
  if validT A && validT B && decide (A.ev = B.ev) && !ws.any (fun l => !A.worded l) then (!ws.any (fun l => !decide (outsF A l = outsF B l)), 0) else (false, 1)
theorem outsF_len (A : Tb) (l : List Int) : (outsF A l).length ≤ l.length := A.run_len l A.sr
theorem passes_any (A B : Tb) (va vb sv : Value) (ls : List (List Int)) (w : World) (hA : TIn w va A) (hB : TIn w vb B) (hS : SIn w sv ls) (hn : ls.length ≤ 9223372036854775807) :
    Calls Try.prog 29 #[va, vb, sv] w fun e w' => e = .returned (.tuple #[.bool (passF A B ls).1, .int .i64 (passF A B ls).2]) ∧ Fr [] w w' := by
  obtain ⟨ra, rfl, hRA⟩ := hA
  obtain ⟨rb, rfl, hRB⟩ := hB
  rw [show A.val ra = .agg #[.int .i64 A.st, .int .i64 A.ev, .int .i64 A.sr, ra] from rfl, show B.val rb = .agg #[.int .i64 B.st, .int .i64 B.ev, .int .i64 B.sr, rb] from rfl]
  have VA : ∀ W, Fr [] w W → Calls Try.prog 19 #[.agg #[.int .i64 A.st, .int .i64 A.ev, .int .i64 A.sr, ra]] W fun e w' => e = .returned (.bool (validT A)) ∧ Fr [] W w' := fun W f => valid_any A _ W ⟨ra, rfl, hRA.fr f⟩
  have VB : ∀ W, Fr [] w W → Calls Try.prog 19 #[.agg #[.int .i64 B.st, .int .i64 B.ev, .int .i64 B.sr, rb]] W fun e w' => e = .returned (.bool (validT B)) ∧ Fr [] W w' := fun W f => valid_any B _ W ⟨rb, rfl, hRB.fr f⟩
  obtain ⟨w1, hw1⟩ : ∃ x, w.alloc (.cells #[.int .i64 A.st, .int .i64 A.ev, .int .i64 A.sr, ra] TTab) = x := ⟨_, rfl⟩
  have P1 := Pt.newA w TTab #[.int .i64 A.st, .int .i64 A.ev, .int .i64 A.sr, ra]
  rw [hw1] at P1
  have F1 : Fr [] w w1 := by rw [← hw1]; exact (Fr.refl [] w).alloc _
  obtain ⟨b1, hb1⟩ : ∃ x, w.heap.size = x := ⟨_, rfl⟩
  rw [hb1] at P1
  obtain ⟨w2, hw2⟩ : ∃ x, w1.alloc (.cells #[.int .i64 B.st, .int .i64 B.ev, .int .i64 B.sr, rb] TTab) = x := ⟨_, rfl⟩
  have P2 := Pt.newA w1 TTab #[.int .i64 B.st, .int .i64 B.ev, .int .i64 B.sr, rb]
  rw [hw2] at P2
  have F2 : Fr [] w1 w2 := by rw [← hw2]; exact (Fr.refl [] w1).alloc _
  obtain ⟨b2, hb2⟩ : ∃ x, w1.heap.size = x := ⟨_, rfl⟩
  rw [hb2] at P2
  have Q1 := F2.pt P1 (by simp)
  have FA := F1.trans F2
  have k1 := Q1.cell
  have k2 := P2.cell
  have FS : ∀ W, Fr [] w W → Pt W b1 TTab [.int .i64 A.st, .int .i64 A.ev, .int .i64 A.sr, ra] → Calls Try.prog 64 #[sv, .func (.func 65) #[] #[.pointer (some ⟨b1, 0, none⟩)]] W fun e w' => e = .returned (.bool (ls.any fun l => !A.worded l)) ∧ Fr [] W w' := fun W f hp =>
    containsS_any sv ls W (hS.fr f) (by omega) _ _ _ cf_pass1 (fun W' u l f' _ hu => pass1_any A ra b1 u l W' ((hRA.fr f).fr f') (f'.pt hp (by simp)) hu)
  replace P1 := Lib.hid P1; replace P2 := Lib.hid P2; replace Q1 := Lib.hid Q1; replace F1 := Lib.hid F1; replace F2 := Lib.hid F2; replace FA := Lib.hid FA; replace VA := Lib.hid VA; replace VB := Lib.hid VB; replace FS := Lib.hid FS; replace hRA := Lib.hid hRA; replace hRB := Lib.hid hRB; replace hS := Lib.hid hS
  obtain ⟨X, hX⟩ : ∃ x, passF A B ls = x := ⟨_, rfl⟩
  rw [hX]
  have hX' := Lib.hid hX
  clear hX
  go_enter Try.func29, Try.ntmps29
  go_wp2_with fail
  refine (VA.out _ FA.out).mono ?_
  rintro e w3 ⟨rfl, f3⟩
  have F3 := FA.out.trans f3
  have Q31 := f3.pt Q1.out (by simp)
  have Q32 := f3.pt P2.out (by simp)
  have k31 := Q31.cell
  have k32 := Q32.cell
  clear k1 k2 hw1 hw2
  replace F3 := Lib.hid F3; replace f3 := Lib.hid f3; replace Q31 := Lib.hid Q31; replace Q32 := Lib.hid Q32
  cases hva : validT A
  · have hx : X = (false, 1) := by rw [← hX'.out]; simp [passF, hva]
    subst hx
    replace hva := Lib.hid hva
    go_wp2_with fail
    go_ret2
    exact ⟨rfl, F3.out⟩
  · have hVA := (validT_iff A).mp hva
    replace hva := Lib.hid hva
    go_wp2_with fail
    refine (VB.out _ F3.out).mono ?_
    rintro e w4 ⟨rfl, f4⟩
    have F4 := F3.out.trans f4
    have Q41 := f4.pt Q31.out (by simp)
    have Q42 := f4.pt Q32.out (by simp)
    have k41 := Q41.cell
    have k42 := Q42.cell
    clear k31 k32
    replace F4 := Lib.hid F4; replace f4 := Lib.hid f4; replace Q41 := Lib.hid Q41; replace Q42 := Lib.hid Q42; replace hVA := Lib.hid hVA
    cases hvb : validT B
    · have hx : X = (false, 1) := by rw [← hX'.out]; simp [passF, hvb]
      subst hx
      replace hvb := Lib.hid hvb
      go_wp2_with fail
      go_ret2
      exact ⟨rfl, F4.out⟩
    · have hVB := (validT_iff B).mp hvb
      replace hvb := Lib.hid hvb; replace hVB := Lib.hid hVB
      by_cases hev : A.ev = B.ev
      · have hevt : (A.ev != B.ev) = false := by simp [hev]
        have hev' := Lib.hid hev
        clear hev
        go_wp2_with fail
        refine (FS.out _ F4.out Q41.out).mono ?_
        rintro e w5 ⟨rfl, f5⟩
        have F5 := F4.out.trans f5
        have Q51 := f5.pt Q41.out (by simp)
        have Q52 := f5.pt Q42.out (by simp)
        clear k41 k42
        replace F5 := Lib.hid F5; replace f5 := Lib.hid f5; replace Q51 := Lib.hid Q51; replace Q52 := Lib.hid Q52
        cases hws : ls.any fun l => !A.worded l
        · have hx : X = (!ls.any (fun l => !decide (outsF A l = outsF B l)), 0) := by rw [← hX'.out]; unfold passF; rw [if_pos (by simp only [hva.out, hvb.out, hws, decide_eq_true hev'.out]; rfl)]
          subst hx
          replace hws := Lib.hid hws
          have hwA : ∀ l ∈ ls, A.worded l = true := fun l hl => by
            have := List.any_eq_false.mp hws.out l hl
            simpa using this
          have hwB : ∀ l ∈ ls, B.worded l = true := fun l hl => by
            have := hwA l hl
            unfold Tb.worded at this ⊢
            rw [← hev'.out]; exact this
          have hl200 : ∀ l ∈ ls, l.length ≤ 200 := fun l hl => by
            have := hwA l hl
            unfold Tb.worded at this
            simp only [Bool.and_eq_true, decide_eq_true_eq] at this
            exact this.1
          have RA : ∀ W u l, Fr [] w W → l ∈ ls → NIn W u l → Calls Try.prog 53 #[.agg #[.int .i64 A.st, .int .i64 A.ev, .int .i64 A.sr, ra], .int .i64 A.sr, u] W fun e w' => ∃ v s', e = .returned (.tuple #[v, .int .i64 s']) ∧ NIn w' v (outsF A l) ∧ Fr [] W w' := fun W u l f hm hu => (trun_any A _ A.sr u l W ⟨ra, rfl, hRA.out.fr f⟩ hVA.out hu (hwA l hm) hVA.out.sr).mono (fun e w' h => by
            obtain ⟨v, h1, h2, h3⟩ := h
            exact ⟨v, _, h1, h2, h3⟩)
          have RB : ∀ W u l, Fr [] w W → l ∈ ls → NIn W u l → Calls Try.prog 53 #[.agg #[.int .i64 B.st, .int .i64 B.ev, .int .i64 B.sr, rb], .int .i64 B.sr, u] W fun e w' => ∃ v s', e = .returned (.tuple #[v, .int .i64 s']) ∧ NIn w' v (outsF B l) ∧ Fr [] W w' := fun W u l f hm hu => (trun_any B _ B.sr u l W ⟨rb, rfl, hRB.out.fr f⟩ hVB.out hu (hwB l hm) hVB.out.sr).mono (fun e w' h => by
            obtain ⟨v, h1, h2, h3⟩ := h
            exact ⟨v, _, h1, h2, h3⟩)
          obtain ⟨os, caps, e, hl⟩ := hS.out
          subst e
          replace hl := Lib.hid hl; replace RA := Lib.hid RA; replace RB := Lib.hid RB; replace hwA := Lib.hid hwA; replace hwB := Lib.hid hwB; replace hl200 := Lib.hid hl200
          go_wp2_with fail
          go_loopg [36] (ls.length + 1) (fun k v wr => ∃ i : Nat, i ≤ ls.length ∧ k + i = ls.length + 1 ∧ v = .int .i64 i ∧ (ls.take i).any (fun l => !decide (outsF A l = outsF B l)) = false ∧ Fr [] w5 wr)
          case atStart => exact ⟨0, by omega, by omega, rfl, by simp, Fr.refl _ _⟩
          case round =>
            obtain ⟨i, hi, hk, rfl, hni, hF⟩ := hrel
            by_cases hlt : i < ls.length
            · have hltI : (i : Int) < ls.length := by omega
              obtain ⟨b, off, u, rfl, hb, hc, hu⟩ := hl.out i hlt
              have FW := F5.out.trans hF
              have c1 := FW.cell (p := ⟨b, off + i, none⟩) hb (by simp)
              rw [hc] at c1
              have kk1 := (hF.pt Q51.out (by simp)).cell
              have hmem : ls[i] ∈ ls := List.getElem_mem hlt
              have hcallA := Lib.hid (RA.out wr u ls[i] FW hmem (hu.fr FW))
              have hnn : decide (outsF A ls[i] = outsF B ls[i]) = true → (ls.take (i + 1)).any (fun l => !decide (outsF A l = outsF B l)) = false := fun h => by
                rw [List.take_succ_eq_append_getElem hlt, List.any_append, hni]
                simp at h
                simp [h]
              have hyes : decide (outsF A ls[i] = outsF B ls[i]) = false → ls.any (fun l => !decide (outsF A l = outsF B l)) = true := fun h => List.any_eq_true.mpr ⟨_, List.getElem_mem hlt, by rw [h]; rfl⟩
              have h200 := hl200.out _ hmem
              have hoL : (outsF A ls[i]).length ≤ 9223372036854775807 := by have := outsF_len A ls[i]; omega
              replace hni := Lib.hid hni; replace hnn := Lib.hid hnn; replace hyes := Lib.hid hyes; replace hF := Lib.hid hF; replace hu := Lib.hid hu; replace FW := Lib.hid FW; replace hmem := Lib.hid hmem; replace hoL := Lib.hid hoL; replace h200 := Lib.hid h200
              clear hc
              go_wp2_with fail
              refine hcallA.out.mono ?_
              rintro e w6 ⟨v6, s6, rfl, hn6, f6⟩
              have F6 := FW.out.trans f6
              have kk2 := (f6.pt (hF.out.pt Q52.out (by simp)) (by simp)).cell
              have hcallB := Lib.hid (RB.out w6 u ls[i] F6 hmem.out (hu.out.fr F6))
              clear kk1
              replace hn6 := Lib.hid hn6; replace F6 := Lib.hid F6; replace f6 := Lib.hid f6
              go_wp2_with fail
              refine hcallB.out.mono ?_
              rintro e w7 ⟨v7, s7, rfl, hn7, f7⟩
              have hcallE := Lib.hid (equal_any v6 v7 _ _ w7 (hn6.out.fr f7) hn7 hoL.out)
              clear kk2
              have F7 := Lib.hid ((hF.out.trans f6.out).trans f7)
              obtain ⟨py, hpy⟩ : ∃ t, decide (outsF A ls[i] = outsF B ls[i]) = t := ⟨_, rfl⟩
              rw [hpy] at hcallE hnn hyes
              replace hn7 := Lib.hid hn7; replace f7 := Lib.hid f7
              clear hpy
              go_wp2_with fail
              refine hcallE.out.mono ?_
              rintro e w8 ⟨rfl, f8⟩
              have F8 := Lib.hid (F7.out.trans f8)
              cases py
              · have hy := hyes.out rfl
                replace hy := Lib.hid hy
                go_wp2_with fail
                go_ret2
                exact ⟨by rw [hy.out]; rfl, F5.out.trans F8.out⟩
              · go_wp2_with fail
                go_roundg (gk - 1)
                case measure => omega
                case rel => exact ⟨i + 1, by omega, by omega, by go_num, hnn.out trivial, F8.out⟩
            · have hltI : ¬ (i : Int) < ls.length := by omega
              have hid : i = ls.length := by omega
              subst hid
              rw [List.take_length] at hni
              replace hni := Lib.hid hni; replace hF := Lib.hid hF
              go_wp2_with fail
              go_ret2
              exact ⟨by rw [hni.out]; rfl, F5.out.trans hF.out⟩
        · have hx : X = (false, 1) := by rw [← hX'.out]; unfold passF; rw [if_neg (by simp only [hva.out, hvb.out, hws, decide_eq_true hev'.out]; simp)]
          subst hx
          replace hws := Lib.hid hws
          go_wp2_with fail
          go_ret2
          exact ⟨rfl, F5.out⟩
      · have hx : X = (false, 1) := by rw [← hX'.out]; simp [passF, hev]
        subst hx
        have hevt : (A.ev != B.ev) = true := by simp [hev]
        have hev' := Lib.hid hev
        clear hev
        go_wp2_with fail
        go_ret2
        exact ⟨rfl, F4.out⟩
end Go.Proofs.Ytnggimkkjdipmaa
namespace Go.Proofs.Ytnggimkkjdipmaa
open Go.RowKit
set_option linter.unusedVariables false
set_option linter.unusedSimpArgs false
set_option maxHeartbeats 16000000
set_option maxRecDepth 100000
theorem rpasses_any (A B : Tb) (va vb sv : Value) (ls : List (List Int)) (w : World) (hA : TIn w va A) (hB : TIn w vb B) (hS : SIn w sv ls) (hn : ls.length ≤ 9223372036854775807) (hnl : ∀ l ∈ ls, l.length ≤ 9223372036854775807) :
    Calls Try.prog 30 #[va, vb, sv] w fun e w' => e = .returned (.tuple #[.bool (passF A B ls).1, .int .i64 (passF A B ls).2]) ∧ Fr [] w w' := by
  obtain ⟨ra, rfl, hRA⟩ := hA
  obtain ⟨rb, rfl, hRB⟩ := hB
  rw [show A.val ra = .agg #[.int .i64 A.st, .int .i64 A.ev, .int .i64 A.sr, ra] from rfl, show B.val rb = .agg #[.int .i64 B.st, .int .i64 B.ev, .int .i64 B.sr, rb] from rfl]
  have VA : ∀ W, Fr [] w W → Calls Try.prog 20 #[.agg #[.int .i64 A.st, .int .i64 A.ev, .int .i64 A.sr, ra]] W fun e w' => e = .returned (.bool (validT A)) ∧ Fr [] W w' := fun W f => rvalid_any A _ W ⟨ra, rfl, hRA.fr f⟩
  have VB : ∀ W, Fr [] w W → Calls Try.prog 20 #[.agg #[.int .i64 B.st, .int .i64 B.ev, .int .i64 B.sr, rb]] W fun e w' => e = .returned (.bool (validT B)) ∧ Fr [] W w' := fun W f => rvalid_any B _ W ⟨rb, rfl, hRB.fr f⟩
  obtain ⟨w1, hw1⟩ : ∃ x, w.alloc (.cells #[.int .i64 A.st, .int .i64 A.ev, .int .i64 A.sr, ra] RTab) = x := ⟨_, rfl⟩
  have P1 := Pt.newA w RTab #[.int .i64 A.st, .int .i64 A.ev, .int .i64 A.sr, ra]
  rw [hw1] at P1
  have F1 : Fr [] w w1 := by rw [← hw1]; exact (Fr.refl [] w).alloc _
  obtain ⟨b1, hb1⟩ : ∃ x, w.heap.size = x := ⟨_, rfl⟩
  rw [hb1] at P1
  obtain ⟨w2, hw2⟩ : ∃ x, w1.alloc (.cells #[.int .i64 B.st, .int .i64 B.ev, .int .i64 B.sr, rb] RTab) = x := ⟨_, rfl⟩
  have P2 := Pt.newA w1 RTab #[.int .i64 B.st, .int .i64 B.ev, .int .i64 B.sr, rb]
  rw [hw2] at P2
  have F2 : Fr [] w1 w2 := by rw [← hw2]; exact (Fr.refl [] w1).alloc _
  obtain ⟨b2, hb2⟩ : ∃ x, w1.heap.size = x := ⟨_, rfl⟩
  rw [hb2] at P2
  have Q1 := F2.pt P1 (by simp)
  have FA := F1.trans F2
  have k1 := Q1.cell
  have k2 := P2.cell
  replace P1 := Lib.hid P1; replace P2 := Lib.hid P2; replace Q1 := Lib.hid Q1; replace F1 := Lib.hid F1; replace F2 := Lib.hid F2; replace FA := Lib.hid FA; replace VA := Lib.hid VA; replace VB := Lib.hid VB; replace hRA := Lib.hid hRA; replace hRB := Lib.hid hRB; replace hS := Lib.hid hS
  obtain ⟨X, hX⟩ : ∃ x, passF A B ls = x := ⟨_, rfl⟩
  rw [hX]
  have hX' := Lib.hid hX
  clear hX
  go_enter Try.func30, Try.ntmps30
  go_wp2_with fail
  refine (VA.out _ FA.out).mono ?_
  rintro e w3 ⟨rfl, f3⟩
  have F3 := FA.out.trans f3
  have Q31 := f3.pt Q1.out (by simp)
  have Q32 := f3.pt P2.out (by simp)
  have k31 := Q31.cell
  have k32 := Q32.cell
  clear k1 k2 hw1 hw2
  replace F3 := Lib.hid F3; replace f3 := Lib.hid f3; replace Q31 := Lib.hid Q31; replace Q32 := Lib.hid Q32
  cases hva : validT A
  · have hx : X = (false, 1) := by rw [← hX'.out]; simp [passF, hva]
    subst hx
    replace hva := Lib.hid hva
    go_wp2_with fail
    go_ret2
    exact ⟨rfl, F3.out⟩
  · have hVA := (validT_iff A).mp hva
    replace hva := Lib.hid hva
    go_wp2_with fail
    refine (VB.out _ F3.out).mono ?_
    rintro e w4 ⟨rfl, f4⟩
    have F4 := F3.out.trans f4
    have Q41 := f4.pt Q31.out (by simp)
    have Q42 := f4.pt Q32.out (by simp)
    have k41 := Q41.cell
    have k42 := Q42.cell
    clear k31 k32
    replace F4 := Lib.hid F4; replace f4 := Lib.hid f4; replace Q41 := Lib.hid Q41; replace Q42 := Lib.hid Q42; replace hVA := Lib.hid hVA
    cases hvb : validT B
    · have hx : X = (false, 1) := by rw [← hX'.out]; simp [passF, hvb]
      subst hx
      replace hvb := Lib.hid hvb
      go_wp2_with fail
      go_ret2
      exact ⟨rfl, F4.out⟩
    · have hVB := (validT_iff B).mp hvb
      replace hvb := Lib.hid hvb; replace hVB := Lib.hid hVB
      by_cases hev : A.ev = B.ev
      · have hevt : (A.ev != B.ev) = false := by simp [hev]
        have hev' := Lib.hid hev
        clear hev
        replace hnl := Lib.hid hnl
        obtain ⟨os, caps, e, hl⟩ := hS.out
        subst e
        have hwB : ∀ l, A.worded l = true → B.worded l = true := fun l h => by
          unfold Tb.worded at h ⊢
          rw [← hev'.out]; exact h
        have WD : ∀ W u l, l ∈ ls → NIn W u l → Calls Try.prog 54 #[u, .int .i64 A.ev] W fun e w' => e = .returned (.bool (A.worded l)) ∧ W = w' := fun W u l hm hu => (rword_any A.ev u l W hu (hnl.out l hm)).mono (fun e w' h => ⟨by rw [h.1, worded_eq], h.2⟩)
        have RA : ∀ W u l, Fr [] w W → A.worded l = true → NIn W u l → Calls Try.prog 55 #[.agg #[.int .i64 A.st, .int .i64 A.ev, .int .i64 A.sr, ra], .int .i64 A.sr, u] W fun e w' => ∃ v s', e = .returned (.tuple #[v, .int .i64 s']) ∧ NIn w' v (outsF A l) ∧ Fr [] W w' := fun W u l f hm hu => (rrun_any A _ A.sr u l W ⟨ra, rfl, hRA.out.fr f⟩ hVA.out hu hm hVA.out.sr).mono (fun e w' h => by
          obtain ⟨v, h1, h2, h3⟩ := h
          exact ⟨v, _, h1, h2, h3⟩)
        have RB : ∀ W u l, Fr [] w W → A.worded l = true → NIn W u l → Calls Try.prog 55 #[.agg #[.int .i64 B.st, .int .i64 B.ev, .int .i64 B.sr, rb], .int .i64 B.sr, u] W fun e w' => ∃ v s', e = .returned (.tuple #[v, .int .i64 s']) ∧ NIn w' v (outsF B l) ∧ Fr [] W w' := fun W u l f hm hu => (rrun_any B _ B.sr u l W ⟨rb, rfl, hRB.out.fr f⟩ hVB.out hu (hwB l hm) hVB.out.sr).mono (fun e w' h => by
          obtain ⟨v, h1, h2, h3⟩ := h
          exact ⟨v, _, h1, h2, h3⟩)
        replace hl := Lib.hid hl; replace RA := Lib.hid RA; replace RB := Lib.hid RB; replace WD := Lib.hid WD; replace hwB := Lib.hid hwB
        go_wp2_with fail
        clear k41 k42
        go_loopg [8, 9] (ls.length + 1) (fun k v8 v9 wr => ∃ i : Nat, i ≤ ls.length ∧ k + i = ls.length + 1 ∧ v9 = .int .i64 i ∧ v8 = .bool (!(ls.take i).any (fun l => !decide (outsF A l = outsF B l))) ∧ (ls.take i).any (fun l => !A.worded l) = false ∧ Fr [] w4 wr)
        case atStart => exact ⟨0, by omega, by omega, rfl, rfl, by simp, Fr.refl _ _⟩
        case round =>
          obtain ⟨i, hi, hk, rfl, rfl, hni, hF⟩ := hrel
          by_cases hlt : i < ls.length
          · have hltI : (i : Int) < ls.length := by omega
            obtain ⟨b, off, u, rfl, hb, hc, hu⟩ := hl.out i hlt
            have FW := F4.out.trans hF
            have PA := hF.pt Q41.out (by simp)
            have PB := hF.pt Q42.out (by simp)
            have hmem : ls[i] ∈ ls := List.getElem_mem hlt
            have SS : ∀ W, Fr [] wr W → W.cell? ⟨b, off + i, none⟩ = some u ∧ W.cell? ⟨b1, 0, none⟩ = some (.int .i64 A.st) ∧ W.cell? ⟨b1, 1, none⟩ = some (.int .i64 A.ev) ∧ W.cell? ⟨b1, 2, none⟩ = some (.int .i64 A.sr) ∧ W.cell? ⟨b1, 3, none⟩ = some ra ∧ W.cell? ⟨b2, 0, none⟩ = some (.int .i64 B.st) ∧ W.cell? ⟨b2, 1, none⟩ = some (.int .i64 B.ev) ∧ W.cell? ⟨b2, 2, none⟩ = some (.int .i64 B.sr) ∧ W.cell? ⟨b2, 3, none⟩ = some rb := fun W f => by
              have p := (f.pt PA (by simp)).cell
              have q := (f.pt PB (by simp)).cell
              exact ⟨by rw [(FW.trans f).cell (p := ⟨b, off + i, none⟩) hb (by simp)]; exact hc, p 0, p 1, p 2, p 3, q 0, q 1, q 2, q 3⟩
            have WQ : ∀ W, Fr [] wr W → Calls Try.prog 54 #[u, .int .i64 A.ev] W fun e w' => e = .returned (.bool (A.worded ls[i])) ∧ Fr [] wr w' := fun W f => (WD.out W u ls[i] hmem (hu.fr (FW.trans f))).mono (fun e w' h => ⟨h.1, h.2 ▸ f⟩)
            obtain ⟨wd, hwd⟩ : ∃ t, A.worded ls[i] = t := ⟨_, rfl⟩
            rw [hwd] at WQ
            have hni1 : wd = true → (ls.take (i + 1)).any (fun l => !A.worded l) = false := fun h => by
              rw [List.take_succ_eq_append_getElem hlt, List.any_append, hni]
              simp [hwd, h]
            have hbad : wd = false → X = (false, 1) := fun h => by
              rw [← hX'.out]; unfold passF
              rw [if_neg]
              have : (ls.any fun l => !A.worded l) = true := List.any_eq_true.mpr ⟨_, hmem, by rw [hwd, h]; rfl⟩
              rw [this]; simp
            have hstep : (ls.take (i + 1)).any (fun l => !decide (outsF A l = outsF B l)) = ((ls.take i).any (fun l => !decide (outsF A l = outsF B l)) || !decide (outsF A ls[i] = outsF B ls[i])) := by
              rw [List.take_succ_eq_append_getElem hlt, List.any_append]; simp
            obtain ⟨acc, hacc⟩ : ∃ t, (ls.take i).any (fun l => !decide (outsF A l = outsF B l)) = t := ⟨_, rfl⟩
            rw [hacc] at hstep ⊢
            obtain ⟨py, hpy⟩ : ∃ t, decide (outsF A ls[i] = outsF B ls[i]) = t := ⟨_, rfl⟩
            rw [hpy] at hstep
            have RQ : ∀ W, wd = true → Fr [] wr W → Calls Try.prog 55 #[.agg #[.int .i64 A.st, .int .i64 A.ev, .int .i64 A.sr, ra], .int .i64 A.sr, u] W fun e w' => ∃ v s', e = .returned (.tuple #[v, .int .i64 s']) ∧ NIn w' v (outsF A ls[i]) ∧ Fr [] wr w' := fun W h f => (RA.out W u ls[i] (FW.trans f) (hwd.trans h) (hu.fr (FW.trans f))).mono (fun e w' hh => by
              obtain ⟨v, s', h1, h2, h3⟩ := hh
              exact ⟨v, s', h1, h2, f.trans h3⟩)
            have RP : ∀ W, wd = true → Fr [] wr W → Calls Try.prog 55 #[.agg #[.int .i64 B.st, .int .i64 B.ev, .int .i64 B.sr, rb], .int .i64 B.sr, u] W fun e w' => ∃ v s', e = .returned (.tuple #[v, .int .i64 s']) ∧ NIn w' v (outsF B ls[i]) ∧ Fr [] W w' ∧ Fr [] wr w' := fun W h f => (RB.out W u ls[i] (FW.trans f) (hwd.trans h) (hu.fr (FW.trans f))).mono (fun e w' hh => by
              obtain ⟨v, s', h1, h2, h3⟩ := hh
              exact ⟨v, s', h1, h2, h3, f.trans h3⟩)
            have IQ : ∀ W v1 v2, wd = true → NIn W v1 (outsF A ls[i]) → NIn W v2 (outsF B ls[i]) → Calls Try.prog 21 #[v1, v2] W fun e w' => e = .returned (.bool py) ∧ Fr [] W w' := fun W v1 v2 h h1 h2 => (ints_any v1 v2 _ _ W h1 h2 (by
              have h5 := outsF_len A ls[i]
              have h6 := hnl.out _ hmem
              omega)).mono (fun e w' hh => ⟨by rw [hh.1, hpy], hh.2⟩)
            clear hc
            replace hni := Lib.hid hni; replace hni1 := Lib.hid hni1; replace hbad := Lib.hid hbad; replace hstep := Lib.hid hstep; replace hacc := Lib.hid hacc; replace hpy := Lib.hid hpy; replace hwd := Lib.hid hwd; replace RQ := Lib.hid RQ; replace RP := Lib.hid RP; replace IQ := Lib.hid IQ; replace WQ := Lib.hid WQ; replace SS := Lib.hid SS; replace PA := Lib.hid PA; replace PB := Lib.hid PB; replace FW := Lib.hid FW; replace hF := Lib.hid hF; replace hu := Lib.hid hu; replace hmem := Lib.hid hmem
            obtain ⟨s0, s1, s2, s3, s4, s5, s6, s7, s8⟩ := SS.out wr (Fr.refl _ _)
            go_upto_region 7 with fail
            clear s0 s1 s2 s3 s4 s5 s6 s7 s8
            go_region_held3 (fun W => W.cell? ⟨b, off + i, none⟩ = some u ∧ W.cell? ⟨b1, 0, none⟩ = some (.int .i64 A.st) ∧ W.cell? ⟨b1, 1, none⟩ = some (.int .i64 A.ev) ∧ W.cell? ⟨b1, 2, none⟩ = some (.int .i64 A.sr) ∧ W.cell? ⟨b1, 3, none⟩ = some ra ∧ W.cell? ⟨b2, 0, none⟩ = some (.int .i64 B.st) ∧ W.cell? ⟨b2, 1, none⟩ = some (.int .i64 B.ev) ∧ W.cell? ⟨b2, 2, none⟩ = some (.int .i64 B.sr) ∧ W.cell? ⟨b2, 3, none⟩ = some rb)
              (first | exact SS.out _ (Fr.refl _ _).drew | exact SS.out _ G6.out)
              ((first
                | (go_at_call 54; refine (WQ.out _ (Fr.refl _ _).drew).mono ?_; rintro e w6 ⟨rfl, G6⟩; replace G6 := Lib.hid G6)))
            cases wd
            · have hx := hbad.out (by first | rfl | trivial)
              replace hx := Lib.hid hx
              go_wp2_with fail
              go_ret2
              exact ⟨by rw [hx.out]; rfl, FW.out.trans G6.out⟩
            · go_upto_region 9 with fail
              go_region_held3 (fun W => W.cell? ⟨b, off + i, none⟩ = some u ∧ W.cell? ⟨b1, 0, none⟩ = some (.int .i64 A.st) ∧ W.cell? ⟨b1, 1, none⟩ = some (.int .i64 A.ev) ∧ W.cell? ⟨b1, 2, none⟩ = some (.int .i64 A.sr) ∧ W.cell? ⟨b1, 3, none⟩ = some ra ∧ W.cell? ⟨b2, 0, none⟩ = some (.int .i64 B.st) ∧ W.cell? ⟨b2, 1, none⟩ = some (.int .i64 B.ev) ∧ W.cell? ⟨b2, 2, none⟩ = some (.int .i64 B.sr) ∧ W.cell? ⟨b2, 3, none⟩ = some rb)
                (first | exact SS.out _ G6.out.drew | exact SS.out _ G7.out)
                ((first
                  | (go_at_call 55; refine (RQ.out _ (by first | rfl | trivial) (G6.out.drew)).mono ?_; rintro e w7 ⟨v7, s7, rfl, n7, G7⟩; replace G7 := Lib.hid G7; replace n7 := Lib.hid n7)))
              go_upto_region 10 with fail
              go_region_held3 (fun W => W.cell? ⟨b, off + i, none⟩ = some u ∧ W.cell? ⟨b1, 0, none⟩ = some (.int .i64 A.st) ∧ W.cell? ⟨b1, 1, none⟩ = some (.int .i64 A.ev) ∧ W.cell? ⟨b1, 2, none⟩ = some (.int .i64 A.sr) ∧ W.cell? ⟨b1, 3, none⟩ = some ra ∧ W.cell? ⟨b2, 0, none⟩ = some (.int .i64 B.st) ∧ W.cell? ⟨b2, 1, none⟩ = some (.int .i64 B.ev) ∧ W.cell? ⟨b2, 2, none⟩ = some (.int .i64 B.sr) ∧ W.cell? ⟨b2, 3, none⟩ = some rb)
                (first | exact SS.out _ G7.out.drew | exact SS.out _ G9.out)
                ((first
                  | (go_at_call 55; refine (RP.out _ (by first | rfl | trivial) (G7.out.drew)).mono ?_; rintro e w9 ⟨v9, s9, rfl, n9, g9, G9⟩; replace G9 := Lib.hid G9; replace g9 := Lib.hid g9; replace n9 := Lib.hid n9)))
              have n79 := n7.out.fr (((Fr.refl [] w7).drew).trans g9.out)
              have IC := Lib.hid (IQ.out w9 v7 v9 (by first | rfl | trivial) n79 n9.out)
              replace n79 := Lib.hid n79
              cases acc
              · go_wp2_with fail
                refine IC.out.mono ?_
                rintro e w10 ⟨rfl, f10⟩
                have G10 := Lib.hid ((hF.out.trans G9.out).trans f10)
                go_wp2_with fail
                go_roundg (gk - 1)
                case measure => omega
                case rel => exact ⟨i + 1, by omega, by omega, by go_num, by rw [hstep.out]; simp, hni1.out (by first | rfl | trivial), G10.out⟩
              · have G10 := Lib.hid (hF.out.trans G9.out)
                go_wp2_with fail
                go_roundg (gk - 1)
                case measure => omega
                case rel => exact ⟨i + 1, by omega, by omega, by go_num, by rw [hstep.out]; rfl, hni1.out (by first | rfl | trivial), G10.out⟩
          · have hltI : ¬ (i : Int) < ls.length := by omega
            have hid : i = ls.length := by omega
            subst hid
            rw [List.take_length] at hni
            have hx : X = (!ls.any (fun l => !decide (outsF A l = outsF B l)), 0) := by rw [← hX'.out]; unfold passF; rw [if_pos (by simp only [hva.out, hvb.out, hni, decide_eq_true hev'.out]; rfl)]
            subst hx
            rw [List.take_length]
            replace hni := Lib.hid hni; replace hF := Lib.hid hF
            go_wp2_with fail
            go_ret2
            exact ⟨rfl, F4.out.trans hF.out⟩
      · have hx : X = (false, 1) := by rw [← hX'.out]; simp [passF, hev]
        subst hx
        have hevt : (A.ev != B.ev) = true := by simp [hev]
        have hev' := Lib.hid hev
        clear hev
        go_wp2_with fail
        go_ret2
        exact ⟨rfl, F4.out⟩
end Go.Proofs.Ytnggimkkjdipmaa
namespace Go.Proofs.Ytnggimkkjdipmaa
open Go.RowKit
set_option linter.unusedVariables false
set_option linter.unusedSimpArgs false
set_option maxHeartbeats 16000000
set_option maxRecDepth 100000
theorem tpasses_any (A B : Tb) (va vb sv : Value) (ls : List (List Int)) (w : World) (hA : TIn w va A) (hzA : Fits A) (hB : TIn w vb B) (hzB : Fits B) (hS : SIn w sv ls) (hn : ls.length ≤ 9223372036854775807) (hnl : ∀ l ∈ ls, l.length ≤ 9223372036854775807) :
    Calls Try.prog 6 #[va, vb, sv] w fun e w' => e = .returned (.bool true) ∧ Fr [] w w' := by
  obtain ⟨ra, rfl, hRA⟩ := hA
  obtain ⟨rb, rfl, hRB⟩ := hB
  rw [show A.val ra = .agg #[.int .i64 A.st, .int .i64 A.ev, .int .i64 A.sr, ra] from rfl, show B.val rb = .agg #[.int .i64 B.st, .int .i64 B.ev, .int .i64 B.sr, rb] from rfl]
  obtain ⟨⟨X1, X2⟩, hX⟩ : ∃ x, passF A B ls = x := ⟨_, rfl⟩
  have PS : ∀ W, Fr [] w W → Calls Try.prog 29 #[.agg #[.int .i64 A.st, .int .i64 A.ev, .int .i64 A.sr, ra], .agg #[.int .i64 B.st, .int .i64 B.ev, .int .i64 B.sr, rb], sv] W fun e w' => e = .returned (.tuple #[.bool X1, .int .i64 X2]) ∧ Fr [] W w' := fun W f => by
    have := passes_any A B _ _ sv ls W ⟨ra, rfl, hRA.fr f⟩ ⟨rb, rfl, hRB.fr f⟩ (hS.fr f) hn
    rw [hX] at this
    exact this
  obtain ⟨w1, hw1⟩ : ∃ x, w.alloc (.cells #[.int .i64 A.st, .int .i64 A.ev, .int .i64 A.sr, ra] TTab) = x := ⟨_, rfl⟩
  have P1 := Pt.newA w TTab #[.int .i64 A.st, .int .i64 A.ev, .int .i64 A.sr, ra]
  rw [hw1] at P1
  have F1 : Fr [] w w1 := by rw [← hw1]; exact (Fr.refl [] w).alloc _
  obtain ⟨b1, hb1⟩ : ∃ x, w.heap.size = x := ⟨_, rfl⟩
  rw [hb1] at P1
  obtain ⟨w2, hw2⟩ : ∃ x, w1.alloc (.cells #[.int .i64 B.st, .int .i64 B.ev, .int .i64 B.sr, rb] TTab) = x := ⟨_, rfl⟩
  have P2 := Pt.newA w1 TTab #[.int .i64 B.st, .int .i64 B.ev, .int .i64 B.sr, rb]
  rw [hw2] at P2
  have F2 : Fr [] w1 w2 := by rw [← hw2]; exact (Fr.refl [] w1).alloc _
  obtain ⟨b2, hb2⟩ : ∃ x, w1.heap.size = x := ⟨_, rfl⟩
  rw [hb2] at P2
  have Q1 := F2.pt P1 (by simp)
  have FA := F1.trans F2
  have k1 := Q1.cell
  have k2 := P2.cell
  replace P1 := Lib.hid P1; replace P2 := Lib.hid P2; replace Q1 := Lib.hid Q1; replace F1 := Lib.hid F1; replace F2 := Lib.hid F2; replace FA := Lib.hid FA; replace PS := Lib.hid PS; replace hX := Lib.hid hX
  go_enter Try.func6, Try.ntmps6
  go_wp2_with fail
  refine (PS.out _ FA.out).mono ?_
  rintro e wq ⟨rfl, f3⟩
  have FQ := FA.out.trans f3
  have Q31 := f3.pt Q1.out (by simp)
  have Q32 := f3.pt P2.out (by simp)
  clear k1 k2 hw1 hw2
  have SS : ∀ W, Fr [] wq W → W.cell? ⟨b1, 0, none⟩ = some (.int .i64 A.st) ∧ W.cell? ⟨b1, 1, none⟩ = some (.int .i64 A.ev) ∧ W.cell? ⟨b1, 2, none⟩ = some (.int .i64 A.sr) ∧ W.cell? ⟨b1, 3, none⟩ = some ra ∧ W.cell? ⟨b2, 0, none⟩ = some (.int .i64 B.st) ∧ W.cell? ⟨b2, 1, none⟩ = some (.int .i64 B.ev) ∧ W.cell? ⟨b2, 2, none⟩ = some (.int .i64 B.sr) ∧ W.cell? ⟨b2, 3, none⟩ = some rb := fun W f => by
    have p := (f.pt Q31 (by simp)).cell
    have q := (f.pt Q32 (by simp)).cell
    exact ⟨p 0, p 1, p 2, p 3, q 0, q 1, q 2, q 3⟩
  have TQA : ∀ W, Fr [] wq W → Calls Try.prog 18 #[.agg #[.int .i64 A.st, .int .i64 A.ev, .int .i64 A.sr, ra]] W fun e w' => ∃ rv, e = .returned rv ∧ TIn w' rv A ∧ Fr [] W w' ∧ Fr [] wq w' := fun W f => (to_any A _ W ⟨ra, rfl, hRA.fr (FQ.trans f)⟩ hzA).mono (fun e w' h => by
    obtain ⟨rv, h1, h2, h3⟩ := h
    exact ⟨rv, h1, h2, h3, f.trans h3⟩)
  have TQB : ∀ W, Fr [] wq W → Calls Try.prog 18 #[.agg #[.int .i64 B.st, .int .i64 B.ev, .int .i64 B.sr, rb]] W fun e w' => ∃ rv, e = .returned rv ∧ TIn w' rv B ∧ Fr [] W w' ∧ Fr [] wq w' := fun W f => (to_any B _ W ⟨rb, rfl, hRB.fr (FQ.trans f)⟩ hzB).mono (fun e w' h => by
    obtain ⟨rv, h1, h2, h3⟩ := h
    exact ⟨rv, h1, h2, h3, f.trans h3⟩)
  have RPQ : ∀ W rva rvb, Fr [] wq W → TIn W rva A → TIn W rvb B → Calls Try.prog 30 #[rva, rvb, sv] W fun e w' => e = .returned (.tuple #[.bool X1, .int .i64 X2]) ∧ Fr [] wq w' := fun W rva rvb f h1 h2 => by
    have := rpasses_any A B rva rvb sv ls W h1 h2 (hS.fr (FQ.trans f)) hn hnl
    rw [hX.out] at this
    exact this.mono (fun e w' h => ⟨h.1, f.trans h.2⟩)
  obtain ⟨s0, s1, s2, s3, s4, s5, s6, s7⟩ := SS wq (Fr.refl _ _)
  replace SS := Lib.hid SS; replace TQA := Lib.hid TQA; replace TQB := Lib.hid TQB; replace RPQ := Lib.hid RPQ; replace FQ := Lib.hid FQ; replace f3 := Lib.hid f3; replace Q31 := Lib.hid Q31; replace Q32 := Lib.hid Q32
  go_upto_region 2 with fail
  clear s0 s1 s2 s3 s4 s5 s6 s7
  go_region_held3 (fun W => W.cell? ⟨b1, 0, none⟩ = some (.int .i64 A.st) ∧ W.cell? ⟨b1, 1, none⟩ = some (.int .i64 A.ev) ∧ W.cell? ⟨b1, 2, none⟩ = some (.int .i64 A.sr) ∧ W.cell? ⟨b1, 3, none⟩ = some ra ∧ W.cell? ⟨b2, 0, none⟩ = some (.int .i64 B.st) ∧ W.cell? ⟨b2, 1, none⟩ = some (.int .i64 B.ev) ∧ W.cell? ⟨b2, 2, none⟩ = some (.int .i64 B.sr) ∧ W.cell? ⟨b2, 3, none⟩ = some rb)
    (first | exact SS.out _ (Fr.refl _ _).drew | exact SS.out _ GP.out | exact SS.out _ GA.out | exact SS.out _ GB.out)
    ((first
      | (go_at_call 18; with_reducible refine Calls.mono (TQA.out _ ?hfr) ?_; (case hfr => first | exact (Fr.refl _ _).drew | exact GB.out); rintro e wA ⟨rva, rfl, tA, gA, GA⟩; replace tA := Lib.hid tA; replace gA := Lib.hid gA; replace GA := Lib.hid GA)
      | (go_at_call 18; with_reducible refine Calls.mono (TQB.out _ ?hfr) ?_; (case hfr => first | exact (Fr.refl _ _).drew | exact GA.out); rintro e wB ⟨rvb, rfl, tB, gB, GB⟩; replace tB := Lib.hid tB; replace gB := Lib.hid gB; replace GB := Lib.hid GB)
      | (go_at_call 30; with_reducible refine Calls.mono (RPQ.out wB rva rvb GB.out (tA.out.fr gB.out) tB.out) ?_; rintro e wP ⟨rfl, GP⟩; replace GP := Lib.hid GP)
      | (go_at_call 30; with_reducible refine Calls.mono (RPQ.out wA rva rvb GA.out tA.out (tB.out.fr gA.out)) ?_; rintro e wP ⟨rfl, GP⟩; replace GP := Lib.hid GP)))
  all_goals
    have SN := Lib.hid (sane_any wP)
    cases X1
    all_goals
      go_wp2_with fail
      refine SN.out.mono ?_
      rintro e w9 ⟨rfl, f9⟩
      have F9 := Lib.hid ((FQ.out.trans GP.out).trans f9)
      go_wp2_with fail
      go_ret
      exact ⟨rfl, F9.out⟩
end Go.Proofs.Ytnggimkkjdipmaa
