import Derived.Test.YtnggimkkjdipmaaTB26
namespace Go.Proofs.Ytnggimkkjdipmaa
open Go.ChangeShapes Go.WideShapes Go.ChangeAt Go.RowKit Go.Deep Go.Joins
set_option linter.unusedVariables false
set_option linter.unusedSimpArgs false
theorem uIntss : Try.prog.underlying 53 = some (.slice 25) := by kernel_rfl
/-- Words that came in. -/
theorem words_of {H : Type} {enc : TypeId × Value → H} {w : World} {base : Nat} {held : Bool} {fuel : Nat} {cs : List Value} {x : DataW H × List MemPlace} (h : DataW.trod enc Try.prog w base (fun _ => true) held fuel 53 cs = some x) :
    ∃ v ll, cs = [v] ∧ SIn w v ll ∧ ll.length ≤ 9223372036854775807 ∧ (∀ l ∈ ll, l.length ≤ 9223372036854775807) ∧ ∀ l ∈ ll, ∀ y ∈ l, -9223372036854775808 ≤ y ∧ y ≤ 9223372036854775807 := by
  have hM : maxLen = 9223372036854775807 := by decide
  rcases open_int_rows uIntss uInts uInt (by kernel_rfl) (by kernel_rfl) h with ⟨rfl, rfl⟩ | ⟨a, len, cap, A, L, C, Z, rfl, hb, hl, hcap, _, hr⟩
  · exact ⟨_, [], rfl, ⟨none, 0, rfl, by simp⟩, by simp, by simp, by simp⟩
  · refine ⟨_, (List.range len).map fun r => (Z r).take (L r), rfl, ⟨some a, cap, by simp, fun i hi => ?_⟩, by simp; omega, fun l hm => ?_, fun l hm y hy => ?_⟩
    · have hil : i < len := by simpa using hi
      obtain ⟨h1, h2, h3, h4, h5, h6, h7⟩ := hr i (by omega)
      have hblk := World.block_lt_of_cell? w _ h1
      have hsp := World.cell?_spot (hr 0 (by omega)).1
      obtain ⟨b, off, p⟩ := a
      have hspot : p = none := by simpa [Addr.add] using hsp
      subst hspot
      rw [add_none] at h1 hblk
      refine ⟨b, off, _, rfl, hblk, h1, ?_⟩
      have hzl : ((Z i).take (L i)).length = L i := by rw [List.length_take]; omega
      have hget : ((List.range len).map fun r => (Z r).take (L r))[i] = (Z i).take (L i) := by simp
      rw [hget]
      refine ⟨A i, C i, by rw [hzl], fun c hc => ?_⟩
      rw [hzl] at hc
      cases hA : A i with
      | none => have := h6 hA; omega
      | some a' =>
        obtain ⟨_, h8⟩ := h7 a' hA
        have h9 := h8 c (by omega)
        have hblk2 := World.block_lt_of_cell? w _ h9
        have hsp2 := World.cell?_spot (h8 0 (by omega))
        obtain ⟨b', off', p'⟩ := a'
        have hspot2 : p' = none := by simpa [Addr.add] using hsp2
        subst hspot2
        rw [add_none] at h9 hblk2
        refine ⟨b', off', rfl, hblk2, ?_⟩
        rw [h9, List.getD_eq_getElem?_getD, List.getElem?_eq_getElem (by omega)]
        simp
    · obtain ⟨i, hi, rfl⟩ := List.mem_map.mp hm
      have hi' : i < len := List.mem_range.mp hi
      obtain ⟨h1, h2, h3, h4, h5, h6, h7⟩ := hr i (by omega)
      rw [List.length_take]; omega
    · obtain ⟨i, hi, rfl⟩ := List.mem_map.mp hm
      have hi' : i < len := List.mem_range.mp hi
      obtain ⟨h1, h2, h3, h4, h5, h6, h7⟩ := hr i (by omega)
      have := h5 y (List.mem_of_mem_take hy)
      have h2 : decide (IntKind.i64.min ≤ y) = true ∧ decide (y ≤ IntKind.i64.max) = true := by simpa [Lit.wf] using this
      rw [decide_eq_true_eq, decide_eq_true_eq, show IntKind.i64.min = -9223372036854775808 by decide +kernel, show IntKind.i64.max = 9223372036854775807 by decide +kernel] at h2
      exact h2
end Go.Proofs.Ytnggimkkjdipmaa
