import Derived.Test.YtnggimkkjdipmaaTOpen
namespace Go.Proofs.Ytnggimkkjdipmaa
open Go.RowKit
set_option linter.unusedVariables false
set_option linter.unusedSimpArgs false
set_option maxHeartbeats 16000000
set_option maxRecDepth 100000
/-! #### two lists are one -/
theorem equal_any (v1 v2 : Value) (l1 l2 : List Int) (w : World) (h1 : NIn w v1 l1) (h2 : NIn w v2 l2) (hln : l1.length ≤ 9223372036854775807) :
    Calls Try.prog 66 #[v1, v2] w fun e w' => e = .returned (.bool (decide (l1 = l2))) ∧ Fr [] w w' := by
  have N1 := fun w' (f : Fr [] w w') => h1.fr f
  have N2 := fun w' (f : Fr [] w w') => h2.fr f
  obtain ⟨o1, cap1, rfl, hl1⟩ := h1
  obtain ⟨o2, cap2, rfl, hl2⟩ := h2
  by_cases hlen : l1.length = l2.length
  · have hne : ((l1.length : Int) != (l2.length : Int)) = false := by simp [hlen]
    have hno : ∀ i (h : i < l1.length) (h2 : i < l2.length), l1[i] ≠ l2[i] → decide (l1 = l2) = false := fun i h h2 hd => by
      rw [decide_eq_false_iff_not]; rintro rfl; exact hd rfl
    have hyes : (∀ i (h : i < l1.length) (h2 : i < l2.length), l1[i] = l2[i]) → decide (l1 = l2) = true := fun h => by
      rw [decide_eq_true_eq]
      exact List.ext_getElem hlen fun i h1 h2 => h i h1 h2
    obtain ⟨X, hX⟩ : ∃ X, decide (l1 = l2) = X := ⟨_, rfl⟩
    rw [hX] at hyes ⊢
    simp only [hX] at hno
    clear hX
    replace hl1 := Lib.hid hl1; replace hl2 := Lib.hid hl2; replace hno := Lib.hid hno; replace hyes := Lib.hid hyes; replace N1 := Lib.hid N1; replace N2 := Lib.hid N2
    have Hlen := Lib.hid hlen
    clear hlen
    go_enter Try.func66, Try.ntmps66
    go_wp2_with fail
    go_loopg [13] (l1.length + 1) (fun k v wr => ∃ i : Nat, i ≤ l1.length ∧ k + i = l1.length + 1 ∧ v = .int .i64 i ∧ Fr [] w wr ∧ ∀ i' (h : i' < l1.length) (h2 : i' < l2.length), i' < i → l1[i'] = l2[i'])
    case atStart => exact ⟨0, by omega, by omega, rfl, Fr.refl _ _, by omega⟩
    case round =>
      obtain ⟨i, hi, hk, rfl, hF, hok⟩ := hrel
      by_cases hlt : i < l1.length
      · have hltI : (i : Int) < l1.length := by omega
        have hlt2 : i < l2.length := by have := Hlen.out; omega
        have hltI2 : (i : Int) < l2.length := by omega
        obtain ⟨b1, off1, rfl, hb1, hc1⟩ := hl1.out i hlt
        obtain ⟨b2, off2, rfl, hb2, hc2⟩ := hl2.out i hlt2
        have c1 := hF.cell (p := ⟨b1, off1 + i, none⟩) hb1 (by simp)
        rw [hc1] at c1
        have c2 := hF.cell (p := ⟨b2, off2 + i, none⟩) hb2 (by simp)
        rw [hc2] at c2
        have no1 := hno.out i hlt hlt2
        have nx : l1[i] = l2[i] → ∀ i' (h : i' < l1.length) (h2 : i' < l2.length), i' < i + 1 → l1[i'] = l2[i'] := fun he i' h' h2' hlt' => by
          rcases (by omega : i' < i ∨ i' = i) with e | rfl
          · exact hok i' h' h2' e
          · exact he
        obtain ⟨x, hx⟩ : ∃ x, l1[i] = x := ⟨_, rfl⟩
        obtain ⟨y, hy⟩ : ∃ y, l2[i] = y := ⟨_, rfl⟩
        rw [hx] at c1
        rw [hy] at c2
        rw [hx, hy] at no1 nx
        replace no1 := Lib.hid no1; replace nx := Lib.hid nx; replace hok := Lib.hid hok; replace hF := Lib.hid hF
        clear hx hy hc1 hc2
        by_cases hxy : x = y
        · subst hxy
          have nx1 := Lib.hid (nx.out rfl)
          have hne2 : (x != x) = false := by simp
          go_wp2_with fail
          go_quiet (fail)
          go_wp2_with fail
          go_roundg (gk - 1)
          case measure => omega
          case rel => exact ⟨i + 1, by omega, by omega, by go_num, hF.out.drewN _, nx1.out⟩
        · have hne2 : (x != y) = true := by simpa using hxy
          have nn := Lib.hid (no1.out hxy)
          go_wp2_with fail
          go_quiet (fail)
          go_wp2_with fail
          go_ret
          exact ⟨ret_b nn.out.symm, hF.out.drewN _⟩
      · have hltI : ¬ (i : Int) < l1.length := by omega
        have yy := Lib.hid (hyes.out fun i' h' h2' => hok i' h' h2' (by omega))
        replace hok := Lib.hid hok; replace hF := Lib.hid hF
        go_wp2_with fail
        go_ret
        exact ⟨ret_b yy.out.symm, hF.out⟩
  · have hne : ((l1.length : Int) != (l2.length : Int)) = true := by simp; omega
    have hX : decide (l1 = l2) = false := by rw [decide_eq_false_iff_not]; rintro rfl; exact hlen rfl
    rw [hX]
    clear hX hl1 hl2 N1 N2
    go_enter Try.func66, Try.ntmps66
    go_wp2_with fail
    go_ret
    exact ⟨rfl, Fr.refl _ _⟩
/-- Words in memory. -/
def SIn (w : World) (v : Value) (l : List (List Int)) : Prop := ∃ o cap, v = .slice o l.length cap ∧ ∀ i (h : i < l.length), ∃ b off u, o = some ⟨b, off, none⟩ ∧ b < w.heap.size ∧ w.cell? ⟨b, off + i, none⟩ = some u ∧ NIn w u l[i]
theorem SIn.fr {w w' : World} {v : Value} {l : List (List Int)} (h : SIn w v l) (hf : Fr [] w w') : SIn w' v l := by
  obtain ⟨o, cap, h1, h2⟩ := h
  refine ⟨o, cap, h1, fun i hi => ?_⟩
  obtain ⟨b, off, u, e, hb, hc, hd⟩ := h2 i hi
  exact ⟨b, off, u, e, Nat.lt_of_lt_of_le hb hf.size, by rw [hf.cell (p := ⟨b, off + i, none⟩) hb (by simp)]; exact hc, hd.fr hf⟩
/-- A test of a word, handed to slices: what it answers in every world that grew. -/
theorem indexS_any (v : Value) (ls : List (List Int)) (w : World) (hD : SIn w v ls) (hn : ls.length ≤ 9223372036854775807) (fn : FuncId) (bs : Array Value) (p : List Int → Bool) (hcf : ∀ W args, (callFunc fn args).run Try.prog W = .ok (.enter fn args) W)
    (hp : ∀ W u l, Fr [] w W → l ∈ ls → NIn W u l → Calls Try.prog fn (#[u] ++ bs) W fun e w' => e = .returned (.bool (p l)) ∧ Fr [] W w') :
    Calls Try.prog 89 #[v, .func (.func fn) #[] bs] w fun e w' => (∃ k : Int, e = .returned (.int .i64 k) ∧ decide (0 ≤ k) = ls.any p) ∧ Fr [] w w' := by
  obtain ⟨o, cap, rfl, hl⟩ := hD
  replace hl := Lib.hid hl; replace hp := Lib.hid hp
  go_enter Try.func89, Try.ntmps89
  go_wp2_with fail
  go_loopg [8] (ls.length + 1) (fun k v wr => ∃ i : Nat, i ≤ ls.length ∧ k + i = ls.length + 1 ∧ v = .int .i64 i ∧ (ls.take i).any p = false ∧ Fr [] w wr)
  case atStart => exact ⟨0, by omega, by omega, rfl, by simp, Fr.refl _ _⟩
  case round =>
    obtain ⟨i, hi, hk, rfl, hni, hF⟩ := hrel
    by_cases hlt : i < ls.length
    · have hltI : (i : Int) < ls.length := by omega
      obtain ⟨b, off, u, rfl, hb, hc, hu⟩ := hl.out i hlt
      have c1 := hF.cell (p := ⟨b, off + i, none⟩) hb (by simp)
      rw [hc] at c1
      have hcall := Lib.hid (hp.out wr u ls[i] hF (List.getElem_mem hlt) (hu.fr hF))
      have hnn : p ls[i] = false → (ls.take (i + 1)).any p = false := fun h => by
        rw [List.take_succ_eq_append_getElem hlt, List.any_append, hni]
        simp [h]
      have hyes : p ls[i] = true → ls.any p = true := fun h => List.any_eq_true.mpr ⟨_, List.getElem_mem hlt, h⟩
      replace hni := Lib.hid hni; replace hnn := Lib.hid hnn; replace hyes := Lib.hid hyes; replace hF := Lib.hid hF; replace hu := Lib.hid hu
      obtain ⟨py, hpy⟩ : ∃ t, p ls[i] = t := ⟨_, rfl⟩
      rw [hpy] at hcall hnn hyes
      clear hpy hc
      go_wp2_with fail
      try rw [hcf]
      refine hcall.out.mono ?_
      rintro e w1 ⟨rfl, f1⟩
      have F1 := Lib.hid (hF.out.trans f1)
      cases py
      · go_wp2_with fail
        go_roundg (gk - 1)
        case measure => omega
        case rel => exact ⟨i + 1, by omega, by omega, by go_num, hnn.out trivial, F1.out⟩
      · go_wp2_with fail
        go_ret
        exact ⟨⟨i, rfl, by rw [hyes.out trivial]; simp⟩, F1.out⟩
    · have hltI : ¬ (i : Int) < ls.length := by omega
      have hid : i = ls.length := by omega
      subst hid
      rw [List.take_length] at hni
      replace hni := Lib.hid hni; replace hF := Lib.hid hF
      go_wp2_with fail
      go_ret
      exact ⟨⟨-1, rfl, by rw [hni.out]; rfl⟩, hF.out⟩
theorem containsS_any (v : Value) (ls : List (List Int)) (w : World) (hD : SIn w v ls) (hn : ls.length ≤ 9223372036854775807) (fn : FuncId) (bs : Array Value) (p : List Int → Bool) (hcf : ∀ W args, (callFunc fn args).run Try.prog W = .ok (.enter fn args) W)
    (hp : ∀ W u l, Fr [] w W → l ∈ ls → NIn W u l → Calls Try.prog fn (#[u] ++ bs) W fun e w' => e = .returned (.bool (p l)) ∧ Fr [] W w') :
    Calls Try.prog 64 #[v, .func (.func fn) #[] bs] w fun e w' => e = .returned (.bool (ls.any p)) ∧ Fr [] w w' := by
  have H := Lib.hid (indexS_any v ls w hD hn fn bs p hcf hp)
  clear hD hp
  go_enter Try.func64, Try.ntmps64
  go_wp2_with fail
  refine H.out.mono ?_
  rintro e w1 ⟨⟨k, rfl, hk⟩, hf⟩
  replace hk := Lib.hid hk; replace hf := Lib.hid hf
  go_wp2_with fail
  go_ret
  exact ⟨ret_b hk.out, hf.out⟩
theorem cf_pass1 : ∀ W args, (callFunc 65 args).run Try.prog W = .ok (.enter 65 args) W := by
  intro W args
  have hb : Try.f65.body.isNone = false := by kernel_rfl
  simp [callFunc, go_sem, Try.func65]
  rw [if_neg (by decide +kernel), if_neg (fun h => by rw [h] at hb; cases hb)]
theorem pass1_any (T : Tb) (r : Value) (b : Nat) (u : Value) (l : List Int) (w : World) (hT : RIn w r T.rows) (hP : Pt w b TTab [.int .i64 T.st, .int .i64 T.ev, .int .i64 T.sr, r]) (hD : NIn w u l) :
    Calls Try.prog 65 #[u, .pointer (some ⟨b, 0, none⟩)] w fun e w' => e = .returned (.bool (!T.worded l)) ∧ Fr [] w w' := by
  have W := Lib.hid (worded_any T (.agg #[.int .i64 T.st, .int .i64 T.ev, .int .i64 T.sr, r]) u l w ⟨r, rfl, hT⟩ hD)
  have k := hP.cell
  clear hT hP hD
  go_enter Try.func65, Try.ntmps65
  go_wp2_with fail
  refine W.out.mono ?_
  rintro e w1 ⟨rfl, f1⟩
  replace f1 := Lib.hid f1
  go_wp2_with fail
  go_ret
  exact ⟨rfl, f1.out⟩
end Go.Proofs.Ytnggimkkjdipmaa
