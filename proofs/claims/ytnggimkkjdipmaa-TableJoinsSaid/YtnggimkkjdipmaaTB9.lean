import Derived.Test.YtnggimkkjdipmaaTB8
namespace Go.Proofs.Ytnggimkkjdipmaa
open Go.RowKit
set_option linter.unusedVariables false
set_option linter.unusedSimpArgs false
set_option maxHeartbeats 8000000
set_option maxRecDepth 20000
theorem RRun_any (T : Tb) (v : Value) (s : Int) (wv : Value) (l : List Int) (w : World) (hT : TIn w v T) (hD : NIn w wv l) (hln : l.length ≤ 9223372036854775807) :
    Calls Try.prog 17 #[v, .int .i64 s, wv] w (RunR3 (T.Run s l) w) := by
  obtain ⟨r, rfl, hR⟩ := hT
  have hT' : TIn w (T.val r) T := ⟨r, rfl, hR⟩
  have hval : T.val r = .agg #[.int .i64 T.st, .int .i64 T.ev, .int .i64 T.sr, r] := rfl
  obtain ⟨w0, hw0⟩ : ∃ x, w.alloc (.cells #[.int .i64 T.st, .int .i64 T.ev, .int .i64 T.sr, r] RTab) = x := ⟨_, rfl⟩
  have P0 := Pt.newA w RTab #[.int .i64 T.st, .int .i64 T.ev, .int .i64 T.sr, r]
  rw [hw0] at P0
  have F0 : Fr [] w w0 := by rw [← hw0]; exact (Fr.refl [] w).alloc _
  obtain ⟨bt, hbt⟩ : ∃ x, w.heap.size = x := ⟨_, rfl⟩
  rw [hbt] at P0
  have V1 := fun w' (f : Fr [] w w') => rvalid_any T (T.val r) w' (hT'.fr f)
  have W1 := fun w' (f : Fr [] w w') => rword_any T.ev wv l w' (hD.fr f) hln
  have R1 := fun w' (f : Fr [] w w') h1 h2 h3 => rrun_any T (T.val r) s wv l w' (hT'.fr f) h1 (hD.fr f) h2 h3
  have C := fun w' (f : Fr [] w0 w') => (f.pt P0 (by simp)).cell
  rw [← worded_eq] at W1
  rw [hval] at V1 R1 ⊢
  have BAD : validT T = false ∨ T.has s = false ∨ T.worded l = false → T.Run s l = ([], 0, 1) := fun h => by
    unfold Tb.Run
    rcases h with h | h | h <;> simp [h]
  replace V1 := Lib.hid V1; replace W1 := Lib.hid W1; replace R1 := Lib.hid R1; replace P0 := Lib.hid P0; replace F0 := Lib.hid F0; replace C := Lib.hid C; replace BAD := Lib.hid BAD
  clear hT' hR hval
  have c0 := C.out w0 (Fr.refl _ _)
  obtain ⟨X, hX⟩ : ∃ X, T.Run s l = X := ⟨_, rfl⟩
  rw [hX]
  have hhas : T.has s = false → s < 0 ∨ (¬ s < 0 ∧ T.st ≤ s) := fun h => by
    by_cases h1 : s < 0
    · exact .inl h1
    · refine .inr ⟨h1, ?_⟩
      unfold Tb.has at h
      rw [decide_eq_true (by omega), Bool.true_and, decide_eq_false_iff_not] at h
      omega
  cases hv : validT T
  · have hb := Lib.hid (BAD.out (.inl hv))
    clear hhas
    go_enter Try.func17, Try.ntmps17
    go_wp2_with fail
    refine (V1.out _ F0.out).mono ?_
    rintro e w1 ⟨rfl, f1⟩
    replace f1 := Lib.hid f1
    replace hX := Lib.hid hX
    rw [hv]
    clear hv
    go_wp2_with fail
    go_ret3
    exact ⟨.slice none 0 0, by rw [← hX.out, hb.out]; rfl, by rw [← hX.out, hb.out]; exact NIn.nil _, F0.out.trans f1.out⟩
  · cases hh : T.has s
    · have hb := Lib.hid (BAD.out (.inr (.inl hh)))
      have hs := hhas hh
      clear hhas hh
      rcases hs with hs | ⟨hs, hs2⟩
      all_goals
        go_enter Try.func17, Try.ntmps17
        go_wp2_with fail
        refine (V1.out _ F0.out).mono ?_
        rintro e w1 ⟨rfl, f1⟩
        have c1 := C.out w1 f1
        have f01 := F0.out.trans f1
        rw [hv]
        replace f1 := Lib.hid f1; replace f01 := Lib.hid f01
        replace hX := Lib.hid hX
        go_wp2_with fail
        go_ret3
        exact ⟨.slice none 0 0, by rw [← hX.out, hb.out]; rfl, by rw [← hX.out, hb.out]; exact NIn.nil _, f01.out⟩
    · have hs : 0 ≤ s ∧ s < T.st := by simpa [Tb.has] using hh
      have hs1 : ¬ s < 0 := by omega
      have hs2 : ¬ T.st ≤ s := by omega
      clear hhas
      cases hw : T.worded l
      · have hb := Lib.hid (BAD.out (.inr (.inr hw)))
        replace hs := Lib.hid hs
        go_enter Try.func17, Try.ntmps17
        go_wp2_with fail
        refine (V1.out _ F0.out).mono ?_
        rintro e w1 ⟨rfl, f1⟩
        have c1 := C.out w1 f1
        have f01 := F0.out.trans f1
        rw [hv]
        replace f1 := Lib.hid f1; replace f01 := Lib.hid f01
        replace hX := Lib.hid hX
        go_wp2_with fail
        refine (W1.out _ f01.out).mono ?_
        rintro e w2 ⟨rfl, rfl⟩
        rw [hw]
        clear hv hh hw
        go_wp2_with fail
        go_ret3
        exact ⟨.slice none 0 0, by rw [← hX.out, hb.out]; rfl, by rw [← hX.out, hb.out]; exact NIn.nil _, f01.out⟩
      · have hg : X = ((T.run s l).1, (T.run s l).2, 0) := by rw [← hX]; unfold Tb.Run; rw [hv, hh, hw]; rfl
        have RR := Lib.hid (fun w' f => R1.out w' f ((validT_iff T).mp hv) hw hs)
        replace hs := Lib.hid hs
        go_enter Try.func17, Try.ntmps17
        go_wp2_with fail
        refine (V1.out _ F0.out).mono ?_
        rintro e w1 ⟨rfl, f1⟩
        have c1 := C.out w1 f1
        have f01 := F0.out.trans f1
        rw [hv]
        replace f1 := Lib.hid f1; replace f01 := Lib.hid f01
        replace hX := Lib.hid hX; replace hg := Lib.hid hg
        go_wp2_with fail
        refine (W1.out _ f01.out).mono ?_
        rintro e w2 ⟨rfl, rfl⟩
        rw [hw]
        go_wp2_with fail
        refine (RR.out _ f01.out).mono ?_
        rintro e w4 ⟨v4, rfl, n4, f4⟩
        replace n4 := Lib.hid n4; replace f4 := Lib.hid f4
        clear hv hh hw c1
        go_wp2_with fail
        go_ret3
        exact ⟨v4, by rw [hg.out]; rfl, by rw [hg.out]; exact n4.out, f01.out.trans f4.out⟩
/-! #### two lists are one -/
theorem ints_any (v1 v2 : Value) (l1 l2 : List Int) (w : World) (h1 : NIn w v1 l1) (h2 : NIn w v2 l2) (hln : l1.length ≤ 9223372036854775807) :
    Calls Try.prog 21 #[v1, v2] w fun e w' => e = .returned (.bool (decide (l1 = l2))) ∧ Fr [] w w' := by
  have N1 := fun w' (f : Fr [] w w') => h1.fr f
  have N2 := fun w' (f : Fr [] w w') => h2.fr f
  obtain ⟨o1, cap1, rfl, hl1⟩ := h1
  obtain ⟨o2, cap2, rfl, hl2⟩ := h2
  by_cases hlen : l1.length = l2.length
  · have hne : ((l1.length : Int) != (l2.length : Int)) = false := by simp [hlen]
    have hno : ∀ i (h : i < l1.length) (h2 : i < l2.length), l1[i] ≠ l2[i] → decide (l1 = l2) = false := fun i h h2 hd => by
      rw [decide_eq_false_iff_not]; rintro rfl; exact hd rfl
    have hyes : (∀ i (h : i < l1.length) (h2 : i < l2.length), l1[i] = l2[i]) → decide (l1 = l2) = true := fun h => by
      rw [decide_eq_true_eq]
      exact List.ext_getElem hlen fun i h1 h2 => h i h1 h2
    obtain ⟨X, hX⟩ : ∃ X, decide (l1 = l2) = X := ⟨_, rfl⟩
    rw [hX] at hyes ⊢
    simp only [hX] at hno
    clear hX
    replace hl1 := Lib.hid hl1; replace hl2 := Lib.hid hl2; replace hno := Lib.hid hno; replace hyes := Lib.hid hyes; replace N1 := Lib.hid N1; replace N2 := Lib.hid N2
    have Hlen := Lib.hid hlen
    clear hlen
    go_enter Try.func21, Try.ntmps21
    go_wp2_with fail
    go_loopg [5] (l1.length + 1) (fun k v wr => ∃ i : Nat, i ≤ l1.length ∧ k + i = l1.length + 1 ∧ v = .int .i64 i ∧ Fr [] w wr ∧ ∀ i' (h : i' < l1.length) (h2 : i' < l2.length), i' < i → l1[i'] = l2[i'])
    case atStart => exact ⟨0, by omega, by omega, rfl, Fr.refl _ _, by omega⟩
    case round =>
      obtain ⟨i, hi, hk, rfl, hF, hok⟩ := hrel
      by_cases hlt : i < l1.length
      · have hltI : (i : Int) < l1.length := by omega
        have hlt2 : i < l2.length := by have := Hlen.out; omega
        have hltI2 : (i : Int) < l2.length := by omega
        obtain ⟨b1, off1, rfl, hb1, hc1⟩ := hl1.out i hlt
        obtain ⟨b2, off2, rfl, hb2, hc2⟩ := hl2.out i hlt2
        have c1 := hF.cell (p := ⟨b1, off1 + i, none⟩) hb1 (by simp)
        rw [hc1] at c1
        have c2 := hF.cell (p := ⟨b2, off2 + i, none⟩) hb2 (by simp)
        rw [hc2] at c2
        have no1 := hno.out i hlt hlt2
        have nx : l1[i] = l2[i] → ∀ i' (h : i' < l1.length) (h2 : i' < l2.length), i' < i + 1 → l1[i'] = l2[i'] := fun he i' h' h2' hlt' => by
          rcases (by omega : i' < i ∨ i' = i) with e | rfl
          · exact hok i' h' h2' e
          · exact he
        obtain ⟨x, hx⟩ : ∃ x, l1[i] = x := ⟨_, rfl⟩
        obtain ⟨y, hy⟩ : ∃ y, l2[i] = y := ⟨_, rfl⟩
        rw [hx] at c1
        rw [hy] at c2
        rw [hx, hy] at no1 nx
        replace no1 := Lib.hid no1; replace nx := Lib.hid nx; replace hok := Lib.hid hok; replace hF := Lib.hid hF
        clear hx hy hc1 hc2
        by_cases hxy : x = y
        · subst hxy
          have nx1 := Lib.hid (nx.out rfl)
          have hne2 : (x != x) = false := by simp
          go_wp2_with fail
          go_quiet (fail)
          go_wp2_with fail
          go_roundg (gk - 1)
          case measure => omega
          case rel => exact ⟨i + 1, by omega, by omega, by go_num, hF.out.drewN _, nx1.out⟩
        · have hne2 : (x != y) = true := by simpa using hxy
          have nn := Lib.hid (no1.out hxy)
          go_wp2_with fail
          go_quiet (fail)
          go_wp2_with fail
          go_ret
          exact ⟨ret_b nn.out.symm, hF.out.drewN _⟩
      · have hltI : ¬ (i : Int) < l1.length := by omega
        have yy := Lib.hid (hyes.out fun i' h' h2' => hok i' h' h2' (by omega))
        replace hok := Lib.hid hok; replace hF := Lib.hid hF
        go_wp2_with fail
        go_ret
        exact ⟨ret_b yy.out.symm, hF.out⟩
  · have hne : ((l1.length : Int) != (l2.length : Int)) = true := by simp; omega
    have hX : decide (l1 = l2) = false := by rw [decide_eq_false_iff_not]; rintro rfl; exact hlen rfl
    rw [hX]
    clear hX hl1 hl2 N1 N2
    go_enter Try.func21, Try.ntmps21
    go_wp2_with fail
    go_ret
    exact ⟨rfl, Fr.refl _ _⟩
end Go.Proofs.Ytnggimkkjdipmaa
