/-
  SyncPlay of layer 21: Play is that of the reference, of every number and deeds.
-/
import Derived.Test.YtjgmlnkbplgloaaR22
import Derived.Test.YtjgmlnkbplgloaaQOpen
namespace Go.Proofs.Ytjgmlnkbplgloaa.syncPlay
open Go.ChangeShapes Go.WideShapes Go.ChangeAt Go.RowKit Go.Deep Go.Joins
set_option linter.unusedVariables false
set_option maxRecDepth 100000 in
theorem lifted (os : Os) (started : os.Started) (H : Type) (enc : TypeId × Value → H) :
    ReturnsInHanded {} Try.checked os 6 .any (Rows.syncPlaySpec.pre6 enc Try.prog Try.f6 Rows.syncPlayRow.domain false) (Rows.syncPlaySpec.post enc Try.prog Try.f6 false true false false) := by
  refine returnsInHanded_of_change (C := Try.checked) own started (by kernel_rfl) Try.func6
    (ChangeSpec.witness6 (enc := enc) (C := Try.checked) false ⟨#[], #[.int .i64 0, .slice none 0 0], []⟩ 8 (by kernel_rfl) (by kernel_rfl) (by kernel_rfl) (by kernel_rfl)) ?_
  intro W base args ds gs before hval0 hW hcnd _
  have hval : ∀ (j : Nat) t v, Try.f6.params[j]? = some t → args[j]? = some v → Value.okWide Try.prog W .any base t v := hval0
  have hW' := hW
  obtain ⟨p, q, hA0, hV, hpq, hfz, hnd⟩ := hW
  have hA : DataW.TrodAll enc Try.prog W 0 (fun _ => true) true Try.f6.params.toList args.toList ds p := hA0
  rw [Try.params6] at hA hval
  obtain ⟨v0, vs0, d0, ds0, p0, q0, hargs, hd0, _, h0, r0⟩ := trodAll_cons hA
  obtain ⟨v1, vs1, d1, ds1, p1, q1, rfl, rfl, _, h1, r1⟩ := trodAll_cons r0
  obtain ⟨rfl, rfl, _⟩ := trodAll_nil r1
  obtain rfl : args = #[v0, v1] := by cases args; simp_all
  obtain ⟨rfl, _⟩ := trodVars_none hV
  obtain ⟨a0, rfl, _, _, _⟩ := open_int uInt (hval 0 _ v0 rfl rfl) h0
  obtain ⟨o, len, cap, rfl⟩ := okWide_slice uInts (hval 1 _ v1 rfl rfl)
  obtain ⟨fuel, h1⟩ := h1
  obtain ⟨v, l, hv, hE⟩ := intArg_of h1
  obtain rfl := (List.cons.inj hv).1
  refine (play_any a0 _ l W hE).mono fun e W' ⟨he, hf⟩ => ?_
  subst he
  exact ⟨_, rfl, post_true hW' rfl laidOut (by kernel_rfl) (by kernel_rfl) uBool (by subst hd0; rfl) (by subst hd0; rfl) (by subst hd0; rfl) (hf.below (Nat.le_refl _) (by simp))⟩
theorem over : Rows.syncPlayRow.holds Try.pinned (OpenSpec.ofChange Rows.syncPlaySpec) :=
  OpenClaim.holds_of_wide 6 Try.f6 rfl rfl rfl rfl rfl rfl rfl ⟨rfl, rfl, rfl, rfl, rfl⟩ rfl rfl rfl rfl rfl (by kernel_rfl) Try.func6 (by kernel_rfl)
    (of_decide_eq_true (by kernel_rfl)) (by unfold Func.isWrapper; first | (rw [if_pos (by decide +kernel)]; kernel_rfl) | (rw [if_neg (by decide +kernel)]; exact ⟨rfl, rfl⟩))
    (fun os started H enc _ => lifted os started H enc)
/-- ████ THE STATEMENT ████ -/
theorem proved : Rows.SyncPlaySaid :=
  over
#print axioms proved
end Go.Proofs.Ytjgmlnkbplgloaa.syncPlay
