import Derived.Test.YtnggimkkjdipmaaTB26
namespace Go.Proofs.Ytnggimkkjdipmaa
open Go.RowKit
set_option linter.unusedVariables false
set_option linter.unusedSimpArgs false
set_option maxHeartbeats 16000000
set_option maxRecDepth 100000
/-! ### Rows of bools -/
theorem uBools : Try.prog.underlying 102 = some (.slice 4) := by kernel_rfl
theorem uBoolss : Try.prog.underlying 103 = some (.slice 102) := by kernel_rfl
noncomputable def iBo : TypeInfo := (Try.prog.info? 4).getD default
theorem infoBo : Try.prog.info? 4 = some iBo := by kernel_rfl
noncomputable def zBo : Value := iBo.zero.getD (.int .i64 0)
noncomputable def iBos : TypeInfo := (Try.prog.info? 102).getD default
theorem infoBos : Try.prog.info? 102 = some iBos := by kernel_rfl
noncomputable def zBos : Value := iBos.zero.getD (.int .i64 0)
theorem make_bools (n : Int) (w : World) (h0 : 0 ≤ n) (h1 : n ≤ 1000) : (Instr.makeSlice 102 (.int .i64 n) (.int .i64 n)).run Try.prog w = .ok (.slice (some ⟨w.heap.size, 0, none⟩) n.toNat n.toNat) (w.alloc (.cells (List.replicate n.toNat (Value.bool false)).toArray 4)) := by
  rw [run_make (P := Try.prog) w 102 4 iBo zBo uBools infoBo (by kernel_rfl) .i64 .i64 n n h0 (by omega) (by rw [show iBo.bytes = 1 by kernel_rfl]; omega) (by omega)]
  congr 3
  rw [show iBo.size = 1 by kernel_rfl, show zBo.cells = #[.bool false] by kernel_rfl]
  unfold madeCells
  apply Array.ext
  · simp
  · intro i h1 h2
    simp [Nat.mod_one]
def bools (n : Nat) (f : Nat → Bool) : List Value := (List.range n).map fun j => .bool (f j)
theorem bools_get (n : Nat) (f : Nat → Bool) (j : Nat) (h : j < n) : (bools n f)[j]? = some (.bool (f j)) := by simp [bools, h]
theorem bools_len (n : Nat) (f : Nat → Bool) : (bools n f).length = n := by simp [bools]
theorem bools_zero (n : Nat) : List.replicate n (Value.bool false) = bools n (fun _ => false) := by
  apply List.ext_getElem
  · simp [bools]
  · intro i h1 h2; simp [bools]
theorem bools_set (n : Nat) (f : Nat → Bool) (b : Nat) (x : Bool) : (bools n f).set b (.bool x) = bools n (fun j => if j = b then x else f j) := by
  apply List.ext_getElem
  · simp [bools]
  · intro i h1 h2
    simp only [bools, List.getElem_set, List.getElem_map, List.getElem_range]
    by_cases h : b = i
    · subst h; simp
    · have h' : ¬ i = b := fun e => h e.symm
      rw [if_neg h, if_neg h']
end Go.Proofs.Ytnggimkkjdipmaa
