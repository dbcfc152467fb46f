import Derived.Test.YtnggimkkjdipmaaTC1
import Derived.Test.YtnggimkkjdipmaaTB26
import Derived.Test.YtnggimkkjdipmaaSortSh
namespace Go.Proofs.Ytnggimkkjdipmaa
open Go.RowKit
set_option linter.unusedVariables false
set_option linter.unusedSimpArgs false
set_option maxHeartbeats 16000000
set_option maxRecDepth 100000
/-! ### slices.Sort, of a row of the call's own -/
theorem sort_any (l : List Int) (v : Value) (b : Nat) (w : World) (hr : Row 1 w v l.length (ints l) (some b)) (hn : l.length ≤ 1000) :
    Calls Try.prog 91 #[v] w fun e w' => e = .returned (.tuple #[]) ∧ NIn w' v (l.mergeSort fun x y => decide (x ≤ y)) ∧ Fr [b] w w' := by
  rcases hr with ⟨h, _⟩ | ⟨b', off, cap, hb, rfl, h3, h4, h5, h6, h7⟩
  · cases h
  · cases hb
    have hH : Sort.Holds (Value.int .i64) w b off l.toArray := fun j hj => by
      have hj' : j < l.length := by simpa using hj
      refine ⟨?_, (h6 j (by omega)).2⟩
      rw [h7 j (by omega)]
      simp [ints, hj']
    refine (Try.slices_Sort_int b off cap l w hH h4 (by omega)).mono ?_
    rintro e w' ⟨rfl, n, os, rfl⟩
    have hs : (l.mergeSort fun x y => decide (x ≤ y)).length = l.length := List.length_mergeSort _
    have hp : (Sort.putRow (Value.int .i64) (Sort.ahead w n) b off (l.mergeSort fun x y => decide (x ≤ y)).toArray).heap.size = w.heap.size := by
      simp [Sort.putRow, Sort.mapBlock, Sort.ahead]
    refine ⟨rfl, ⟨some ⟨b, off, none⟩, cap, by rw [hs], fun i hi => ⟨b, off, rfl, ?_, ?_⟩⟩, ?_⟩
    · simp only [Sort.grow, Array.size_append, hp]; omega
    · rw [Sort.cell?_grow _ _ _ (by rw [hp]; exact h4), Sort.cell?_putRow (Value.int .i64) (Sort.ahead w n) b off l.toArray _ (Sort.holds_ahead _ _ _ _ _ _ hH) (by simp) i (by simpa using hi)]
      simp
      rw [List.getElem?_eq_getElem hi]; rfl
    · refine ⟨rfl, rfl, rfl, by simp only [Sort.grow, Array.size_append, hp]; omega, fun k hk hx => ?_⟩
      rw [Sort.heap_grow_old _ _ (by rw [hp]; exact hk)]
      simp at hx
      simp [Sort.putRow, Sort.mapBlock, Sort.ahead, Array.getElem?_modify, Ne.symm hx]
end Go.Proofs.Ytnggimkkjdipmaa
