/-
  SetMeans of layer 3: a number is in the set of a constraint just as its tree says, and its root has the same set. For every constraint and every number.
-/
import Derived.Test.YtehmfnpiidcbpaaGOpenN
import Derived.Test.YtehmfnpiidcbpaaGL4
namespace Go.Proofs.Ytehmfnpiidcbpaa.setMeans
open Go.ChangeShapes Go.WideShapes Go.ChangeAt Go.RowKit Go.Deep Go.Joins
set_option linter.unusedVariables false
set_option maxRecDepth 100000 in
theorem lifted (os : Os) (started : os.Started) (H : Type) (enc : TypeId × Value → H) :
    ReturnsInHanded {} Try.checked os 6 .any (Rows.setMeansSpec.pre6 enc Try.prog Try.f6 Rows.setMeansRow.domain false) (Rows.setMeansSpec.post enc Try.prog Try.f6 false true false false) := by
  refine returnsInHanded_of_change (C := Try.checked) own started (by kernel_rfl) Try.func6
    (ChangeSpec.witness6 (enc := enc) (C := Try.checked) false ⟨#[], #[.agg #[.int .i64 0, .int .i64 0, .int .i64 0, .slice none 0 0], .int .i64 0], []⟩ 8 (by kernel_rfl) (by kernel_rfl) (by kernel_rfl) (by kernel_rfl)) ?_
  intro W base args ds gs before hval0 hW hcnd _
  have hval : ∀ (j : Nat) t v, Try.f6.params[j]? = some t → args[j]? = some v → Value.okWide Try.prog W .any base t v := hval0
  have hW' := hW
  obtain ⟨p, q, hA0, hV, hpq, hfz, hnd⟩ := hW
  have hA : DataW.TrodAll enc Try.prog W 0 (fun _ => true) true Try.f6.params.toList args.toList ds p := hA0
  rw [Try.params6] at hA hval
  obtain ⟨v0, vs0, d0, ds0, p0, q0, hargs, hd0, _, h0, r0⟩ := trodAll_cons hA
  obtain ⟨v1, vs1, d1, ds1, p1, q1, rfl, rfl, _, h1, r1⟩ := trodAll_cons r0
  obtain ⟨rfl, rfl, _⟩ := trodAll_nil r1
  obtain rfl : args = #[v0, v1] := by cases args; simp_all
  obtain ⟨rfl, _⟩ := trodVars_none hV
  obtain ⟨n0, hn0⟩ := ndArg_of (hval 0 _ v0 rfl rfl) h0
  obtain ⟨n1, rfl, _, _, hwf1⟩ := open_int uIntO (hval 1 _ v1 rfl rfl) h1
  refine (setMeans_any n0 n1 v0 W hn0).mono fun e W' ⟨he, hf⟩ => ?_
  subst he
  exact ⟨_, rfl, post_true hW' rfl laidOut (by kernel_rfl) (by kernel_rfl) uBool (by subst hd0; rfl) (by subst hd0; rfl) (by subst hd0; rfl) (hf.below (Nat.le_refl _) (by simp))⟩
theorem over : Rows.setMeansRow.holds Try.pinned (OpenSpec.ofChange Rows.setMeansSpec) :=
  OpenClaim.holds_of_wide 6 Try.f6 rfl rfl rfl rfl rfl rfl rfl ⟨rfl, rfl, rfl, rfl, rfl⟩ rfl rfl rfl rfl rfl (by kernel_rfl) Try.func6 (by kernel_rfl)
    (of_decide_eq_true (by kernel_rfl)) (by unfold Func.isWrapper; first | (rw [if_pos (by decide +kernel)]; kernel_rfl) | (rw [if_neg (by decide +kernel)]; exact ⟨rfl, rfl⟩))
    (fun os started H enc _ => lifted os started H enc)
/-- ████ THE STATEMENT ████ -/
theorem proved : Rows.SetMeansSaid :=
  over
#print axioms proved
end Go.Proofs.Ytehmfnpiidcbpaa.setMeans
