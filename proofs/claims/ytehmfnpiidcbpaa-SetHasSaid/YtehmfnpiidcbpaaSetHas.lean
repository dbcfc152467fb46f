/-
  SetHas of layer 3: a number is in a union, a meeting or an exception just as it is in the parts. For every two lists of ranges and every number.
-/
import Derived.Test.YtehmfnpiidcbpaaGOpen
import Derived.Test.YtehmfnpiidcbpaaGL2
namespace Go.Proofs.Ytehmfnpiidcbpaa.setHas
open Go.ChangeShapes Go.WideShapes Go.ChangeAt Go.RowKit Go.Deep Go.Joins
set_option linter.unusedVariables false
set_option maxRecDepth 100000 in
theorem lifted (os : Os) (started : os.Started) (H : Type) (enc : TypeId × Value → H) :
    ReturnsInHanded {} Try.checked os 4 .any (Rows.setHasSpec.pre6 enc Try.prog Try.f4 Rows.setHasRow.domain false) (Rows.setHasSpec.post enc Try.prog Try.f4 false true false false) := by
  refine returnsInHanded_of_change (C := Try.checked) own started (by kernel_rfl) Try.func4
    (ChangeSpec.witness6 (enc := enc) (C := Try.checked) false ⟨#[], #[.slice none 0 0, .slice none 0 0, .int .i64 0], []⟩ 8 (by kernel_rfl) (by kernel_rfl) (by kernel_rfl) (by kernel_rfl)) ?_
  intro W base args ds gs before hval0 hW hcnd _
  have hval : ∀ (j : Nat) t v, Try.f4.params[j]? = some t → args[j]? = some v → Value.okWide Try.prog W .any base t v := hval0
  have hW' := hW
  obtain ⟨p, q, hA0, hV, hpq, hfz, hnd⟩ := hW
  have hA : DataW.TrodAll enc Try.prog W 0 (fun _ => true) true Try.f4.params.toList args.toList ds p := hA0
  rw [Try.params4] at hA hval
  obtain ⟨v0, vs0, d0, ds0, p0, q0, hargs, hd0, _, h0, r0⟩ := trodAll_cons hA
  obtain ⟨v1, vs1, d1, ds1, p1, q1, rfl, rfl, _, h1, r1⟩ := trodAll_cons r0
  obtain ⟨v2, vs2, d2, ds2, p2, q2, rfl, rfl, _, h2, r2⟩ := trodAll_cons r1
  obtain ⟨rfl, rfl, _⟩ := trodAll_nil r2
  obtain rfl : args = #[v0, v1, v2] := by cases args; simp_all
  obtain ⟨rfl, _⟩ := trodVars_none hV
  obtain ⟨o0, len0, cap0, rfl⟩ := okWide_slice uPairs (hval 0 _ v0 rfl rfl)
  obtain ⟨fuel0, h0⟩ := h0
  obtain ⟨w0, l0, hv0, hS0, hn0⟩ := pairs_of h0
  obtain rfl := (List.cons.inj hv0).1
  obtain ⟨o1, len1, cap1, rfl⟩ := okWide_slice uPairs (hval 1 _ v1 rfl rfl)
  obtain ⟨fuel1, h1⟩ := h1
  obtain ⟨w1, l1, hv1, hS1, hn1⟩ := pairs_of h1
  obtain rfl := (List.cons.inj hv1).1
  obtain ⟨n2, rfl, _, _, hwf2⟩ := open_int uIntO (hval 2 _ v2 rfl rfl) h2
  refine (setHas_any _ _ l0 l1 n2 W hS0 hS1 hn0 hn1).mono fun e W' ⟨he, hf⟩ => ?_
  subst he
  exact ⟨_, rfl, post_true hW' rfl laidOut (by kernel_rfl) (by kernel_rfl) uBool (by subst hd0; rfl) (by subst hd0; rfl) (by subst hd0; rfl) (hf.below (Nat.le_refl _) (by simp))⟩
theorem over : Rows.setHasRow.holds Try.pinned (OpenSpec.ofChange Rows.setHasSpec) :=
  OpenClaim.holds_of_wide 4 Try.f4 rfl rfl rfl rfl rfl rfl rfl ⟨rfl, rfl, rfl, rfl, rfl⟩ rfl rfl rfl rfl rfl (by kernel_rfl) Try.func4 (by kernel_rfl)
    (of_decide_eq_true (by kernel_rfl)) (by unfold Func.isWrapper; first | (rw [if_pos (by decide +kernel)]; kernel_rfl) | (rw [if_neg (by decide +kernel)]; exact ⟨rfl, rfl⟩))
    (fun os started H enc _ => lifted os started H enc)
/-- ████ THE STATEMENT ████ -/
theorem proved : Rows.SetHasSaid :=
  over
#print axioms proved
end Go.Proofs.Ytehmfnpiidcbpaa.setHas
