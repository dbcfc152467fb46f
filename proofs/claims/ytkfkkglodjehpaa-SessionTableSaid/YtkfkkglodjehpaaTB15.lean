import Derived.Test.YtkfkkglodjehpaaTB11
import Derived.Laws.MakeOwn
import Derived.Laws.Cells
namespace Go.Proofs.Ytkfkkglodjehpaa
open Go.RowKit
set_option linter.unusedVariables false
set_option linter.unusedSimpArgs false
set_option maxHeartbeats 8000000
set_option maxRecDepth 20000
def NInB (q : Nat → Prop) (w : World) (v : Value) (l : List Int) : Prop := ∃ o cap, v = .slice o l.length cap ∧ ∀ i (h : i < l.length), ∃ b off, o = some ⟨b, off, none⟩ ∧ b < w.heap.size ∧ q b ∧ w.cell? ⟨b, off + i, none⟩ = some (.int .i64 l[i])
/-! ### slices.Clone -/
/-- append([]int{}, l..). -/
theorem copy_run (a0 : Addr) (cap : Nat) (ds : List Int) (w : World) (hD : NIn w (.slice (some a0) ds.length cap) ds) (hn : ds.length < 1000000) :
    ∃ v' w' bo, (Builtin.append_ #[36, 36] 36 #[.slice (some ⟨w.heap.size, 0, none⟩) 0 0, .slice (some a0) ds.length cap]).run Try.prog (w.alloc (.cells #[] 3)) = .ok v' w' ∧
      Row 1 w' v' ds.length (ints ds) bo ∧ (∀ z, bo = some z → w.heap.size ≤ z) ∧ Fr [] w w' := by
  obtain ⟨o, cap', hv, hl⟩ := hD
  cases hv
  have f1 : Fr [] w (w.alloc (.cells #[] 3)) := (Fr.refl [] w).alloc _
  by_cases h0 : ds = []
  · subst h0
    have hsrc : Src Try.prog iInt.size 36 (.slice (some a0) ([] : List Int).length cap) 0 [] (w.alloc (.cells #[] 3)) := by
      refine Src.mk (.inl ⟨_, uInts⟩) (fun w' => by simp [Builtin.lenOf, go_sem]) ?_ ?_ (by simp) (by simp)
      · simp [Builtin.firstCells, go_sem]
      · simp [Builtin.firstCells, go_sem]
    exact ⟨_, _, none, run_append_nothing _ _ _ _ _ iInt uInts infoInt _ 0 0 (Nat.le_refl _) _ hsrc, Row.nil 1 _ _, by simp, f1⟩
  · have hpos : 0 < ds.length := by cases ds with | nil => exact absurd rfl h0 | cons _ _ => simp
    obtain ⟨b, off, e0, hb, _⟩ := hl 0 hpos
    cases e0
    have hc : ∀ i (h : i < ds.length), w.cell? ⟨b, off + i, none⟩ = some (.int .i64 ds[i]) := fun i h => by
      obtain ⟨b', off', e, _, hc⟩ := hl i h
      cases e
      exact hc
    have hsrc : Src Try.prog 1 36 (.slice (some ⟨b, off, none⟩) ds.length cap) ds.length (ints ds) (w.alloc (.cells #[] 3)) := Src.ofSlice _ uInts ⟨b, off, none⟩ ds.length cap _ (by simp [ints]) (fun j u hu => by
        have hj : j < ds.length := by have := (List.getElem?_eq_some_iff.1 hu).1; simpa [ints] using this
        rw [Addr.add_lit, f1.cell (p := ⟨b, off + j, none⟩) hb (by simp), hc j hj]
        simpa [ints, hj] using hu) (by intro u hu; simp only [ints, List.mem_map] at hu; obtain ⟨a, _, rfl⟩ := hu; rfl)
    obtain ⟨v', w', bo', hrun, hr, hb', hf⟩ := (Row.nil 1 (w.alloc (.cells #[] 3)) (some ⟨w.heap.size, 0, none⟩)).append (t := 36) (ty := 36) (e := 3) (i := iInt) (z := zInt) uInts infoInt (by kernel_rfl) (by kernel_rfl) (by omega) (by kernel_rfl) (of_decide_eq_true (by kernel_rfl)) (by omega) hsrc (by omega) hpos
    refine ⟨v', w', bo', hrun, by simpa using hr, fun z hz => ?_, f1.trans (by simpa using hf)⟩
    rcases hb' with h | h
    · rw [h] at hz; cases hz
    · rw [h] at hz; cases hz; exact f1.size
theorem eq_nil (o : Option Addr) (l c : Nat) (w : World) : (binOp .eql 36 (.slice o l c) (.slice none 0 0)).run Try.prog w = .ok (.bool o.isNone) w := by
  simp [binOp, run_equal_slice_nil w _ _ o l c uInts]
theorem clone_any (v : Value) (ds : List Int) (w : World) (hD : NIn w v ds) (hn : ds.length < 1000000) :
    Calls Try.prog 26 #[v] w fun e w' => ∃ v' bo, e = .returned v' ∧ Row 1 w' v' ds.length (ints ds) bo ∧ (∀ z, bo = some z → w.heap.size ≤ z) ∧ Fr [] w w' := by
  have hD' := hD
  obtain ⟨o, cap, rfl, hl⟩ := hD'
  cases o with
  | none =>
    have h0 : ds = [] := by
      cases ds with
      | nil => rfl
      | cons a r => obtain ⟨_, _, e, _⟩ := hl 0 (by simp); cases e
    subst h0
    clear hD hl
    go_enter Try.func26, Try.ntmps26
    go_wp2_with fail
    rw [eq_nil]
    go_wp2_with fail
    go_ret
    exact ⟨_, none, rfl, Row.nil 1 _ none, by simp, Fr.refl _ _⟩
  | some a0 =>
    obtain ⟨v', w', bo, hrun, hr, hb, hf⟩ := copy_run a0 cap ds w hD hn
    replace hrun := Lib.hid hrun
    clear hD hl
    go_enter Try.func26, Try.ntmps26
    go_wp2_with fail
    rw [eq_nil]
    go_wp2_with (first | (at_builtin; refine wpList_append_run _ rfl _ _ _ rfl rfl rfl hrun.out ?_))
    go_ret
    exact ⟨v', bo, rfl, hr, hb, hf⟩
end Go.Proofs.Ytkfkkglodjehpaa
