import Derived.Test.YtehmfnpiidcbpaaGS1
namespace Go.Proofs.Ytehmfnpiidcbpaa
open Go.RowKit
set_option linter.unusedVariables false
set_option linter.unusedSimpArgs false
set_option maxHeartbeats 16000000
set_option maxRecDepth 100000
/-- A test of a pair, handed to slices. -/
theorem indexP_any (v : Value) (ls : List (Int × Int)) (w : World) (hD : PIn w v ls) (hn : ls.length ≤ 9223372036854775807) (fn : FuncId) (bs : Array Value) (p : Int × Int → Bool) (hcf : ∀ W args, (callFunc fn args).run Try.prog W = .ok (.enter fn args) W)
    (hp : ∀ W x, Fr [] w W → x ∈ ls → Calls Try.prog fn (#[.agg #[.int .i64 x.1, .int .i64 x.2]] ++ bs) W fun e w' => e = .returned (.bool (p x)) ∧ Fr [] W w') :
    Calls Try.prog 51 #[v, .func (.func fn) #[] bs] w fun e w' => (∃ k : Int, e = .returned (.int .i64 k) ∧ decide (0 ≤ k) = ls.any p ∧ (0 ≤ k → ∃ h : k.toNat < ls.length, p ls[k.toNat] = true ∧ (ls.take k.toNat).any p = false)) ∧ Fr [] w w' := by
  obtain ⟨o, cap, rfl, hl⟩ := hD
  replace hl := Lib.hid hl; replace hp := Lib.hid hp
  go_enter Try.func51, Try.ntmps51
  go_wp2_with fail
  go_loopg [8] (ls.length + 1) (fun k v wr => ∃ i : Nat, i ≤ ls.length ∧ k + i = ls.length + 1 ∧ v = .int .i64 i ∧ (ls.take i).any p = false ∧ Fr [] w wr)
  case atStart => exact ⟨0, by omega, by omega, rfl, by simp, Fr.refl _ _⟩
  case round =>
    obtain ⟨i, hi, hk, rfl, hni, hF⟩ := hrel
    by_cases hlt : i < ls.length
    · have hltI : (i : Int) < ls.length := by omega
      obtain ⟨b, off, rfl, hb, hc, hc'⟩ := hl.out i hlt
      have c1 := hF.cell (p := ⟨b, off + i * 2, none⟩) hb (by simp)
      rw [hc] at c1
      have c2 := hF.cell (p := ⟨b, off + i * 2 + 1, none⟩) hb (by simp)
      rw [hc'] at c2
      have hcall := Lib.hid (hp.out wr ls[i] hF (List.getElem_mem hlt))
      have hfst : p ls[i] = true → (0 ≤ (i : Int) → ∃ h : (i : Int).toNat < ls.length, p ls[(i : Int).toNat] = true ∧ (ls.take (i : Int).toNat).any p = false) := fun h _ => ⟨hlt, h, hni⟩
      have hnn : p ls[i] = false → (ls.take (i + 1)).any p = false := fun h => by
        rw [List.take_succ_eq_append_getElem hlt, List.any_append, hni]
        simp [h]
      have hyes : p ls[i] = true → ls.any p = true := fun h => List.any_eq_true.mpr ⟨_, List.getElem_mem hlt, h⟩
      replace hni := Lib.hid hni; replace hnn := Lib.hid hnn; replace hyes := Lib.hid hyes; replace hF := Lib.hid hF; replace hfst := Lib.hid hfst
      obtain ⟨py, hpy⟩ : ∃ t, p ls[i] = t := ⟨_, rfl⟩
      rw [hpy] at hcall hnn hyes
      have hpy' := Lib.hid hpy
      obtain ⟨⟨y1, y2⟩, hy⟩ : ∃ y, ls[i] = y := ⟨_, rfl⟩
      rw [hy] at c1 c2 hcall
      dsimp only at c1 c2 hcall
      replace hy := Lib.hid hy
      clear hpy hc hc'
      go_wp2_with fail
      try rw [hcf]
      refine hcall.out.mono ?_
      rintro e w1 ⟨rfl, f1⟩
      have F1 := Lib.hid (hF.out.trans f1)
      cases py
      · go_wp2_with fail
        go_roundg (gk - 1)
        case measure => omega
        case rel => exact ⟨i + 1, by omega, by omega, by go_num, hnn.out trivial, F1.out⟩
      · go_wp2_with fail
        go_ret
        exact ⟨⟨i, rfl, by rw [hyes.out trivial]; simp, hfst.out hpy'.out⟩, F1.out⟩
    · have hltI : ¬ (i : Int) < ls.length := by omega
      have hid : i = ls.length := by omega
      subst hid
      rw [List.take_length] at hni
      replace hni := Lib.hid hni; replace hF := Lib.hid hF
      go_wp2_with fail
      go_ret
      exact ⟨⟨-1, rfl, by rw [hni.out]; rfl, fun h => by omega⟩, hF.out⟩
theorem containsP_any (v : Value) (ls : List (Int × Int)) (w : World) (hD : PIn w v ls) (hn : ls.length ≤ 9223372036854775807) (fn : FuncId) (bs : Array Value) (p : Int × Int → Bool) (hcf : ∀ W args, (callFunc fn args).run Try.prog W = .ok (.enter fn args) W)
    (hp : ∀ W x, Fr [] w W → x ∈ ls → Calls Try.prog fn (#[.agg #[.int .i64 x.1, .int .i64 x.2]] ++ bs) W fun e w' => e = .returned (.bool (p x)) ∧ Fr [] W w') :
    Calls Try.prog 37 #[v, .func (.func fn) #[] bs] w fun e w' => e = .returned (.bool (ls.any p)) ∧ Fr [] w w' := by
  have H := Lib.hid (indexP_any v ls w hD hn fn bs p hcf hp)
  clear hD hp
  go_enter Try.func37, Try.ntmps37
  go_wp2_with fail
  refine H.out.mono ?_
  rintro e w1 ⟨⟨k, rfl, hk, _⟩, hf⟩
  replace hk := Lib.hid hk; replace hf := Lib.hid hf
  go_wp2_with fail
  go_ret
  exact ⟨ret_b hk.out, hf.out⟩
end Go.Proofs.Ytehmfnpiidcbpaa
