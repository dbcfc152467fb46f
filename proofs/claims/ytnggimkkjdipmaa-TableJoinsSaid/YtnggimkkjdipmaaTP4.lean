import Derived.Test.YtnggimkkjdipmaaTP3
import Derived.Test.YtnggimkkjdipmaaMaps
namespace Go.Proofs.Ytnggimkkjdipmaa
open Go.RowKit
set_option linter.unusedVariables false
set_option linter.unusedSimpArgs false
/-! ### A walk by breadth: what holds on the way -/
structure WOk (T : Tb) (L : List (Int × List Int)) : Prop where
  nd : (L.map (·.1)).Nodup
  rng : ∀ x ∈ L, 0 ≤ x.1 ∧ x.1 < T.st
  len : ∀ k (h : k < L.length), L[k].2.length ≤ k
theorem WOk.le {T : Tb} {L : List (Int × List Int)} (h : WOk T L) : L.length ≤ T.st.toNat := by
  have := pigeon (L.map (·.1)) ((List.range T.st.toNat).map fun n : Nat => (n : Int)) h.nd (fun x hx => by
    obtain ⟨y, hy, rfl⟩ := List.mem_map.mp hx
    have := h.rng y hy
    exact List.mem_map.mpr ⟨y.1.toNat, List.mem_range.mpr (by omega), by show ((y.1.toNat : Nat) : Int) = y.1; omega⟩)
  simpa using this
theorem WOk.step {T : Tb} {L : List (Int × List Int)} (h : WOk T L) (x : Int) (word : List Int) (h0 : 0 ≤ x) (h1 : x < T.st) (hn : ¬ L.any (fun y => y.1 == x) = true) (hw : word.length ≤ L.length) : WOk T (L ++ [(x, word)]) := by
  refine ⟨?_, fun y hy => ?_, fun k hk => ?_⟩
  · rw [List.map_append, List.nodup_append]
    refine ⟨h.nd, by simp, fun a ha b hb => ?_⟩
    simp at hb; subst hb
    rintro rfl
    obtain ⟨y, hy, rfl⟩ := List.mem_map.mp ha
    exact hn (List.any_eq_true.mpr ⟨y, hy, by simp⟩)
  · rcases List.mem_append.mp hy with hy | hy
    · exact h.rng y hy
    · simp at hy; subst hy; exact ⟨h0, h1⟩
  · by_cases e : k < L.length
    · rw [List.getElem_append_left e]; exact h.len k e
    · have : k = L.length := by simp at hk; omega
      subst this
      simp [hw]
theorem WOk.start {T : Tb} (h : VT T) : WOk T [(T.sr, [])] :=
  ⟨by simp, fun x hx => by simp at hx; subst hx; exact h.sr, fun k hk => by simp at hk; subst hk; simp⟩
theorem wRow_cons (word : List Int) (e : Nat) (r : Int × Int) (rs : List (Int × Int)) (L : List (Int × List Int)) : wRow word e (r :: rs) L = wRow word (e + 1) rs (wStep word L e r) := rfl
/-- Lists of entries. -/
theorem kget_none {κ : Type} [DecidableEq κ] : ∀ (M : List (κ × Value)) (k : κ), k ∉ M.map (·.1) → kget M k = none
  | [], _, _ => rfl
  | x :: M, k, h => by
    have h1 : ¬ x.1 = k := fun e => h (by simp [e])
    have h2 : k ∉ M.map (·.1) := fun e => h (by simp at e ⊢; exact .inr e)
    simp [kget, h1, kget_none M k h2]
theorem kget_at {κ : Type} [DecidableEq κ] : ∀ (M : List (κ × Value)) (i : Nat) (h : i < M.length), (M.map (·.1)).Nodup → kget M M[i].1 = some M[i].2
  | x :: M, 0, _, _ => by simp [kget]
  | x :: M, i + 1, h, hn => by
    simp only [List.map_cons, List.nodup_cons] at hn
    have hi : i < M.length := by simpa using h
    have hne : ¬ x.1 = M[i].1 := fun e => hn.1 (by rw [e]; exact List.mem_map.mpr ⟨_, List.getElem_mem hi, rfl⟩)
    simp only [List.getElem_cons_succ, kget, hne, if_false]
    exact kget_at M i hi hn.2
theorem kget_some {κ : Type} [DecidableEq κ] : ∀ (M : List (κ × Value)) (k : κ), k ∈ M.map (·.1) → (kget M k).isSome = true
  | x :: M, k, h => by
    by_cases e : x.1 = k
    · simp [kget, e]
    · have : k ∈ M.map (·.1) := by simp at h ⊢; rcases h with h | h; exact absurd h.symm e; exact h
      simp [kget, e, kget_some M k this]
theorem kset_new {κ : Type} [DecidableEq κ] : ∀ (M : List (κ × Value)) (k : κ) (v : Value), k ∉ M.map (·.1) → kset M k v = M ++ [(k, v)]
  | [], _, _, _ => rfl
  | x :: M, k, v, h => by
    have h1 : ¬ x.1 = k := fun e => h (by simp [e])
    have h2 : k ∉ M.map (·.1) := fun e => h (by simp at e ⊢; exact .inr e)
    simp [kset, h1, kset_new M k v h2]
theorem kget_isSome {κ : Type} [DecidableEq κ] (M : List (κ × Value)) (k : κ) : (kget M k).isSome = decide (k ∈ M.map (·.1)) := by
  by_cases h : k ∈ M.map (·.1)
  · rw [kget_some M k h, decide_eq_true h]
  · rw [kget_none M k h, decide_eq_false h]; rfl
theorem any_keys (L : List (Int × List Int)) (x : Int) : L.any (fun y => y.1 == x) = decide (x ∈ L.map (·.1)) := by
  rw [Bool.eq_iff_iff, decide_eq_true_eq, List.any_eq_true, List.mem_map]
  constructor
  · rintro ⟨y, hy, e⟩; exact ⟨y, hy, by simpa using e⟩
  · rintro ⟨y, hy, e⟩; exact ⟨y, hy, by simpa using e⟩
theorem walkF_more (T : Tb) : ∀ (f : Nat) (i : Nat) (L : List (Int × List Int)), L.length ≤ i → walkF T f i L = L
  | 0, _, _, _ => rfl
  | f + 1, i, L, h => by unfold walkF; rw [if_neg (by omega)]
end Go.Proofs.Ytnggimkkjdipmaa
