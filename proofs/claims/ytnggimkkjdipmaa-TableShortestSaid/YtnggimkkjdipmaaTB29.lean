import Derived.Test.YtnggimkkjdipmaaMaps2
namespace Go.Proofs.Ytnggimkkjdipmaa
open Go.RowKit
set_option linter.unusedVariables false
set_option linter.unusedSimpArgs false
set_option maxHeartbeats 16000000
set_option maxRecDepth 100000
/-- A test of a pair, handed to slices. -/
theorem indexP_any (v : Value) (ls : List (Int × Int)) (w : World) (hD : PIn w v ls) (hn : ls.length ≤ 9223372036854775807) (fn : FuncId) (bs : Array Value) (p : Int × Int → Bool) (hcf : ∀ W args, (callFunc fn args).run Try.prog W = .ok (.enter fn args) W)
    (hp : ∀ W x, Fr [] w W → x ∈ ls → Calls Try.prog fn (#[.agg #[.int .i64 x.1, .int .i64 x.2]] ++ bs) W fun e w' => e = .returned (.bool (p x)) ∧ Fr [] W w') :
    Calls Try.prog 59 #[v, .func (.func fn) #[] bs] w fun e w' => (∃ k : Int, e = .returned (.int .i64 k) ∧ decide (0 ≤ k) = ls.any p ∧ (0 ≤ k → ∃ h : k.toNat < ls.length, p ls[k.toNat] = true ∧ (ls.take k.toNat).any p = false)) ∧ Fr [] w w' := by
  obtain ⟨o, cap, rfl, hl⟩ := hD
  replace hl := Lib.hid hl; replace hp := Lib.hid hp
  go_enter Try.func59, Try.ntmps59
  go_wp2_with fail
  go_loopg [8] (ls.length + 1) (fun k v wr => ∃ i : Nat, i ≤ ls.length ∧ k + i = ls.length + 1 ∧ v = .int .i64 i ∧ (ls.take i).any p = false ∧ Fr [] w wr)
  case atStart => exact ⟨0, by omega, by omega, rfl, by simp, Fr.refl _ _⟩
  case round =>
    obtain ⟨i, hi, hk, rfl, hni, hF⟩ := hrel
    by_cases hlt : i < ls.length
    · have hltI : (i : Int) < ls.length := by omega
      obtain ⟨b, off, rfl, hb, hc, hc'⟩ := hl.out i hlt
      have c1 := hF.cell (p := ⟨b, off + i * 2, none⟩) hb (by simp)
      rw [hc] at c1
      have c2 := hF.cell (p := ⟨b, off + i * 2 + 1, none⟩) hb (by simp)
      rw [hc'] at c2
      have hcall := Lib.hid (hp.out wr ls[i] hF (List.getElem_mem hlt))
      have hfst : p ls[i] = true → (0 ≤ (i : Int) → ∃ h : (i : Int).toNat < ls.length, p ls[(i : Int).toNat] = true ∧ (ls.take (i : Int).toNat).any p = false) := fun h _ => ⟨hlt, h, hni⟩
      have hnn : p ls[i] = false → (ls.take (i + 1)).any p = false := fun h => by
        rw [List.take_succ_eq_append_getElem hlt, List.any_append, hni]
        simp [h]
      have hyes : p ls[i] = true → ls.any p = true := fun h => List.any_eq_true.mpr ⟨_, List.getElem_mem hlt, h⟩
      replace hni := Lib.hid hni; replace hnn := Lib.hid hnn; replace hyes := Lib.hid hyes; replace hF := Lib.hid hF; replace hfst := Lib.hid hfst
      obtain ⟨py, hpy⟩ : ∃ t, p ls[i] = t := ⟨_, rfl⟩
      rw [hpy] at hcall hnn hyes
      have hpy' := Lib.hid hpy
      obtain ⟨⟨y1, y2⟩, hy⟩ : ∃ y, ls[i] = y := ⟨_, rfl⟩
      rw [hy] at c1 c2 hcall
      dsimp only at c1 c2 hcall
      replace hy := Lib.hid hy
      clear hpy hc hc'
      go_wp2_with fail
      try rw [hcf]
      refine hcall.out.mono ?_
      rintro e w1 ⟨rfl, f1⟩
      have F1 := Lib.hid (hF.out.trans f1)
      cases py
      · go_wp2_with fail
        go_roundg (gk - 1)
        case measure => omega
        case rel => exact ⟨i + 1, by omega, by omega, by go_num, hnn.out trivial, F1.out⟩
      · go_wp2_with fail
        go_ret
        exact ⟨⟨i, rfl, by rw [hyes.out trivial]; simp, hfst.out hpy'.out⟩, F1.out⟩
    · have hltI : ¬ (i : Int) < ls.length := by omega
      have hid : i = ls.length := by omega
      subst hid
      rw [List.take_length] at hni
      replace hni := Lib.hid hni; replace hF := Lib.hid hF
      go_wp2_with fail
      go_ret
      exact ⟨⟨-1, rfl, by rw [hni.out]; rfl, fun h => by omega⟩, hF.out⟩
theorem containsP_any (v : Value) (ls : List (Int × Int)) (w : World) (hD : PIn w v ls) (hn : ls.length ≤ 9223372036854775807) (fn : FuncId) (bs : Array Value) (p : Int × Int → Bool) (hcf : ∀ W args, (callFunc fn args).run Try.prog W = .ok (.enter fn args) W)
    (hp : ∀ W x, Fr [] w W → x ∈ ls → Calls Try.prog fn (#[.agg #[.int .i64 x.1, .int .i64 x.2]] ++ bs) W fun e w' => e = .returned (.bool (p x)) ∧ Fr [] W w') :
    Calls Try.prog 57 #[v, .func (.func fn) #[] bs] w fun e w' => e = .returned (.bool (ls.any p)) ∧ Fr [] w w' := by
  have H := Lib.hid (indexP_any v ls w hD hn fn bs p hcf hp)
  clear hD hp
  go_enter Try.func57, Try.ntmps57
  go_wp2_with fail
  refine H.out.mono ?_
  rintro e w1 ⟨⟨k, rfl, hk, _⟩, hf⟩
  replace hk := Lib.hid hk; replace hf := Lib.hid hf
  go_wp2_with fail
  go_ret
  exact ⟨ret_b hk.out, hf.out⟩
end Go.Proofs.Ytnggimkkjdipmaa
namespace Go.Proofs.Ytnggimkkjdipmaa
open Go.RowKit
set_option linter.unusedVariables false
set_option linter.unusedSimpArgs false
set_option maxHeartbeats 16000000
set_option maxRecDepth 100000
theorem cf_prod1 : ∀ W args, (callFunc 58 args).run Try.prog W = .ok (.enter 58 args) W := by
  intro W args
  have hb : Try.f58.body.isNone = false := by kernel_rfl
  simp [callFunc, go_sem, Try.func58]
  rw [if_neg (by decide +kernel), if_neg (fun h => by rw [h] at hb; cases hb)]
theorem cf_prod2 : ∀ W args, (callFunc 60 args).run Try.prog W = .ok (.enter 60 args) W := by
  intro W args
  have hb : Try.f60.body.isNone = false := by kernel_rfl
  simp [callFunc, go_sem, Try.func60]
  rw [if_neg (by decide +kernel), if_neg (fun h => by rw [h] at hb; cases hb)]
theorem prod1_any (U : Tb) (r : Value) (b : Nat) (x : Int × Int) (w : World) (hP : Pt w b TTab [.int .i64 U.st, .int .i64 U.ev, .int .i64 U.sr, r]) :
    Calls Try.prog 58 #[.agg #[.int .i64 x.1, .int .i64 x.2], .pointer (some ⟨b, 0, none⟩)] w fun e w' => e = .returned (.bool (decide (x.2 < 0) || decide (U.ev ≤ x.2))) ∧ Fr [] w w' := by
  obtain ⟨x1, x2⟩ := x
  dsimp only
  obtain ⟨w1, hw1⟩ : ∃ y, w.alloc (.cells #[.int .i64 x1, .int .i64 x2] 93) = y := ⟨_, rfl⟩
  have P1 := Pt.newA w 93 #[.int .i64 x1, .int .i64 x2]
  rw [hw1] at P1
  have F1 : Fr [] w w1 := by rw [← hw1]; exact (Fr.refl [] w).alloc _
  have Q1 := F1.pt hP (by simp)
  have k1 := P1.cell
  have q1 := Q1.cell
  obtain ⟨bx, hbx⟩ : ∃ y, w.heap.size = y := ⟨_, rfl⟩
  rw [hbx] at k1
  replace P1 := Lib.hid P1; replace F1 := Lib.hid F1; replace Q1 := Lib.hid Q1
  clear hP
  by_cases h : x2 < 0
  · rw [decide_eq_true h, Bool.true_or]
    go_enter Try.func58, Try.ntmps58
    go_wp2_with fail
    go_ret
    exact ⟨rfl, F1.out⟩
  · rw [decide_eq_false h, Bool.false_or]
    go_enter Try.func58, Try.ntmps58
    go_wp2_with fail
    go_ret
    exact ⟨rfl, F1.out⟩
theorem prod2_any (r1 r2 : Int) (b : Nat) (x : Int × Int) (w : World) (hP : Pt w b TRow [.int .i64 r1, .int .i64 r2]) :
    Calls Try.prog 60 #[.agg #[.int .i64 x.1, .int .i64 x.2], .pointer (some ⟨b, 0, none⟩)] w fun e w' => e = .returned (.bool (x.1 == r2)) ∧ Fr [] w w' := by
  obtain ⟨x1, x2⟩ := x
  dsimp only
  obtain ⟨w1, hw1⟩ : ∃ y, w.alloc (.cells #[.int .i64 x1, .int .i64 x2] 93) = y := ⟨_, rfl⟩
  have P1 := Pt.newA w 93 #[.int .i64 x1, .int .i64 x2]
  rw [hw1] at P1
  have F1 : Fr [] w w1 := by rw [← hw1]; exact (Fr.refl [] w).alloc _
  have Q1 := F1.pt hP (by simp)
  have k1 := P1.cell
  have q1 := Q1.cell
  obtain ⟨bx, hbx⟩ : ∃ y, w.heap.size = y := ⟨_, rfl⟩
  rw [hbx] at k1
  replace P1 := Lib.hid P1; replace F1 := Lib.hid F1; replace Q1 := Lib.hid Q1
  clear hP
  go_enter Try.func60, Try.ntmps60
  go_wp2_with fail
  go_ret
  exact ⟨rfl, F1.out⟩
end Go.Proofs.Ytnggimkkjdipmaa
namespace Go.Proofs.Ytnggimkkjdipmaa
open Go.RowKit
set_option linter.unusedVariables false
set_option linter.unusedSimpArgs false
set_option maxHeartbeats 16000000
set_option maxRecDepth 100000
/-- A queue of pairs: its first, and what is left. -/
theorem Row.popP {w : World} {v : Value} {x : Int × Int} {t : List (Int × Int)} {bo : Option Nat} (h : Row 2 w v (x :: t).length (pcells (x :: t)) bo) :
    ∃ b off cap, v = .slice (some ⟨b, off, none⟩) (t.length + 1) cap ∧ t.length + 1 ≤ cap ∧ b < w.heap.size ∧ bo = some b ∧ w.cell? ⟨b, off, none⟩ = some (.int .i64 x.1) ∧ w.cell? ⟨b, off + 1, none⟩ = some (.int .i64 x.2) ∧
      ∀ u, u = (if cap = 1 then Value.slice (some ⟨b, off, none⟩) t.length 0 else .slice (some ⟨b, off + 2, none⟩) t.length (cap - 1)) → ∃ o', Row 2 w u t.length (pcells t) o' ∧ (o' = bo ∨ o' = none) := by
  have hcl : pcells (x :: t) = [.int .i64 x.1, .int .i64 x.2] ++ pcells t := rfl
  rcases h with ⟨_, h2, _⟩ | ⟨b, off, cap, hb, hv, h3, h4, h5, h6, h7⟩
  · simp at h2
  · simp only [List.length_cons] at h3 h5 h7
    refine ⟨b, off, cap, hv, h3, h4, hb, ?_, ?_, fun u hu => ?_⟩
    · have := h7 0 (by omega)
      rw [Nat.add_zero] at this
      rw [this, hcl]; rfl
    · rw [h7 1 (by omega), hcl]; rfl
    · by_cases hc1 : cap = 1
      · rw [if_pos hc1] at hu
        have hr0 : t = [] := by cases t with | nil => rfl | cons _ _ => simp at h3; omega
        subst hr0
        rw [hu]
        exact ⟨none, Row.nil 2 w _, .inr rfl⟩
      · rw [if_neg hc1] at hu
        refine ⟨some b, .inr ⟨b, off + 2, cap - 1, rfl, hu, by omega, h4, pcells_len t, fun j hj => ?_, fun j hj => ?_⟩, .inl hb.symm⟩
        · rw [Nat.add_assoc]; exact h6 _ (by omega)
        · rw [Nat.add_assoc, h7 _ (by omega), hcl, List.getElem?_append_right (show 2 ≤ 2 + j by omega)]
          congr 1
          show 2 + j - 2 = j
          omega
end Go.Proofs.Ytnggimkkjdipmaa
