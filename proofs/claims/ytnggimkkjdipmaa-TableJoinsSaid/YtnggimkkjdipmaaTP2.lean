import Derived.Test.YtnggimkkjdipmaaTP1
namespace Go.Proofs.Ytnggimkkjdipmaa
open Go.RowKit
set_option linter.unusedVariables false
set_option linter.unusedSimpArgs false
/-! ### Numbers in the order of the first time -/
section
variable {κ : Type} [DecidableEq κ]
def addK (known : List κ) (k : κ) : List κ := if k ∈ known then known else known ++ [k]
/-- Each key's number, and the keys. -/
def numG : List κ → List κ → List Nat × List κ
  | known, [] => ([], known)
  | known, k :: ks => ((addK known k).idxOf k :: (numG (addK known k) ks).1, (numG (addK known k) ks).2)
theorem mem_addK (known : List κ) (k x : κ) : x ∈ addK known k ↔ x ∈ known ∨ x = k := by
  unfold addK; split
  · exact ⟨.inl, fun h => by rcases h with h | rfl <;> assumption⟩
  · simp
theorem nodup_addK {known : List κ} (h : known.Nodup) (k : κ) : (addK known k).Nodup := by
  unfold addK; split
  · exact h
  · rename_i hk
    rw [List.nodup_append]
    exact ⟨h, by simp, fun a ha b hb => by simp at hb; subst hb; exact fun e => hk (e ▸ ha)⟩
theorem addK_pre (known : List κ) (k : κ) : known <+: addK known k := by
  unfold addK; split
  · exact List.prefix_refl _
  · exact List.prefix_append _ _
theorem numG_len : ∀ (ks known : List κ), (numG known ks).1.length = ks.length
  | [], _ => rfl
  | k :: ks, known => by simp [numG, numG_len ks]
theorem numG_mem : ∀ (ks known : List κ) (x : κ), x ∈ (numG known ks).2 ↔ x ∈ known ∨ x ∈ ks
  | [], _, x => by simp [numG]
  | k :: ks, known, x => by
    simp only [numG, numG_mem ks, mem_addK, List.mem_cons]
    exact ⟨fun h => by rcases h with (h | h) | h; exact .inl h; exact .inr (.inl h); exact .inr (.inr h), fun h => by rcases h with h | h | h; exact .inl (.inl h); exact .inl (.inr h); exact .inr h⟩
theorem numG_nodup : ∀ (ks known : List κ), known.Nodup → (numG known ks).2.Nodup
  | [], _, h => h
  | k :: ks, known, h => by simp only [numG]; exact numG_nodup ks _ (nodup_addK h k)
theorem numG_pre : ∀ (ks known : List κ), known <+: (numG known ks).2
  | [], _ => List.prefix_refl _
  | k :: ks, known => by simp only [numG]; exact (addK_pre known k).trans (numG_pre ks _)
theorem numG_snoc : ∀ (ks known : List κ) (k : κ), numG known (ks ++ [k]) = ((numG known ks).1 ++ [(addK (numG known ks).2 k).idxOf k], addK (numG known ks).2 k)
  | [], known, k => by simp [numG]
  | x :: ks, known, k => by simp [numG, numG_snoc ks]
theorem len_addK (known : List κ) (k : κ) : (addK known k).length ≤ known.length + 1 := by
  unfold addK; split <;> simp
theorem numG_le (ks : List κ) : ∀ known : List κ, (numG known ks).2.length ≤ known.length + ks.length := by
  induction ks with
  | nil => intro known; simp [numG]
  | cons k ks ih => intro known; have h1 := ih (addK known k); have h2 := len_addK known k; simp only [numG, List.length_cons]; omega
theorem pigeon : ∀ (l m : List κ), l.Nodup → (∀ x ∈ l, x ∈ m) → l.length ≤ m.length
  | [], _, _, _ => by simp
  | x :: l, m, h, hs => by
    have h' := List.nodup_cons.mp h
    have := pigeon l (m.erase x) h'.2 (fun y hy => (List.mem_erase_of_ne (fun e => h'.1 (by rw [← e]; exact hy))).mpr (hs y (by simp [hy])))
    have hm := hs x (by simp)
    rw [List.length_erase_of_mem hm] at this
    have hp : 0 < m.length := List.length_pos_of_mem hm
    simp only [List.length_cons]
    omega
end
/-- Coarser keys have no more numbers. -/
theorem numG_coarse {κ μ : Type} [DecidableEq κ] [DecidableEq μ] (ks : List κ) (h : κ → μ) : (numG [] (ks.map h)).2.length ≤ (numG [] ks).2.length := by
  have h1 := pigeon (numG [] (ks.map h)).2 ((numG [] ks).2.map h) (numG_nodup _ _ List.nodup_nil) (fun x hx => by
    rw [numG_mem] at hx
    simp only [List.not_mem_nil, false_or] at hx
    obtain ⟨k, hk, rfl⟩ := List.mem_map.mp hx
    exact List.mem_map.mpr ⟨k, (numG_mem _ _ _).mpr (.inr hk), rfl⟩)
  simpa using h1
/-- The numbers, told apart as the keys are. -/
theorem numG_get {κ : Type} [DecidableEq κ] : ∀ (ks known : List κ) (i : Nat) (h : i < ks.length), known.Nodup →
    ∃ h', ((numG known ks).1)[i]'h' = (numG known ks).2.idxOf ks[i]
  | k :: ks, known, 0, h, hn => by
    refine ⟨by simp [numG], ?_⟩
    simp only [numG, List.getElem_cons_zero]
    have hk : k ∈ addK known k := (mem_addK _ _ _).mpr (.inr rfl)
    obtain ⟨t, ht⟩ := numG_pre ks (addK known k)
    rw [← ht, List.idxOf_append]
    simp [hk]
  | k :: ks, known, i + 1, h, hn => by
    obtain ⟨h', e⟩ := numG_get ks (addK known k) i (by simpa using h) (nodup_addK hn k)
    refine ⟨by simp [numG]; have := numG_len ks (addK known k); simp at h; omega, ?_⟩
    simp only [numG, List.getElem_cons_succ]
    exact e
theorem idx_lt {κ : Type} [DecidableEq κ] (l : List κ) (k : κ) (h : k ∈ l) : l.idxOf k < l.length := List.idxOf_lt_length_of_mem h
theorem idxOf_inj {κ : Type} [DecidableEq κ] (l : List κ) (a b : κ) (ha : a ∈ l) (h : l.idxOf a = l.idxOf b) : a = b := by
  have h1 := List.idxOf_lt_length_of_mem ha
  have e1 : l[l.idxOf a]'h1 = a := List.getElem_idxOf h1
  have h2 : l.idxOf b < l.length := h ▸ h1
  have e2 : l[l.idxOf b]'h2 = b := List.getElem_idxOf h2
  rw [← e1, ← e2]
  congr 1
end Go.Proofs.Ytnggimkkjdipmaa
