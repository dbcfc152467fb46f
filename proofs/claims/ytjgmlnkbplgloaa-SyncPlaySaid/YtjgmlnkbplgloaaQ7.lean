import Derived.Test.YtjgmlnkbplgloaaQ4
namespace Go.Proofs.Ytjgmlnkbplgloaa
open Go.RowKit
set_option linter.unusedVariables false
set_option linter.unusedSimpArgs false
set_option maxHeartbeats 8000000
set_option maxRecDepth 20000
/-! ### Plain: r is at most a, a at most m; the points that are not confirmed lie between -/
structure SV (s : SS) : Prop where
  ord : 0 ≤ s.r ∧ s.r ≤ s.a ∧ s.a ≤ s.m
  own : ∀ x ∈ s.own, s.a ≤ x ∧ x < s.m
  theirs : ∀ x ∈ s.theirs, s.a ≤ x ∧ x < s.m
  one : ¬ (s.wt = true ∧ s.kt = true)
theorem keep_in {a m : Int} {l : List Int} : ∀ x ∈ keep (over a m) l, a ≤ x ∧ x < m := fun x hx => by
  have := (List.mem_filter.mp hx).2
  simp only [over, Bool.not_eq_true', Bool.or_eq_false_iff, decide_eq_false_iff_not] at this
  omega
theorem SV.prune {s : SS} (h : 0 ≤ s.r ∧ s.r ≤ s.a ∧ s.a ≤ s.m) (h1 : ¬ (s.wt = true ∧ s.kt = true)) : SV s.pruned := ⟨h, fun x hx => keep_in x hx, fun x hx => keep_in x hx, h1⟩
theorem SV.anew {s : SS} (h : SV s) (how n : Int) (hn : 0 ≤ n) : SV (s.anew how n) := by
  have ho := h.ord
  have h2 : SV (s.reset how n).pruned := SV.prune (by
    show 0 ≤ (if how = 0 then min s.r n else n) ∧ (if how = 0 then min s.r n else n) ≤ (if how = 0 then min s.a n else n) ∧ (if how = 0 then min s.a n else n) ≤ n
    by_cases q : how = 0
    · rw [if_pos q, if_pos q]; omega
    · rw [if_neg q, if_neg q]; omega) h.one
  exact ⟨h2.ord, h2.own, h2.theirs, fun hh => by cases hh.1⟩
theorem SV.settled {s : SS} (h : SV s) : SV s.settled := SV.prune (s := { s with a := s.m, r := s.m, major := 0 }) ⟨by show 0 ≤ s.m; have := h.ord; omega, Int.le_refl _, Int.le_refl _⟩ h.one
theorem SV.point {s : SS} (h : SV s) (k : Int) (b : Bool) : SV (pt1 s k b) := by
  have ho := h.ord
  have l1 : ∀ x ∈ s.own, s.a ≤ x ∧ x < s.m + 1 := fun x hx => by have := h.own x hx; omega
  have l2 : ∀ x ∈ s.theirs, s.a ≤ x ∧ x < s.m + 1 := fun x hx => by have := h.theirs x hx; omega
  have ap : ∀ l : List Int, (∀ x ∈ l, s.a ≤ x ∧ x < s.m + 1) → ∀ x ∈ l ++ [s.m], s.a ≤ x ∧ x < s.m + 1 := fun l hl x hx => by
    rcases List.mem_append.mp hx with hx | hx
    · exact hl x hx
    · rw [List.mem_singleton.mp hx]; omega
  unfold pt1
  split
  · exact ⟨by show 0 ≤ s.r ∧ s.r ≤ s.a ∧ s.a ≤ s.m + 1; omega, l1, l2, h.one⟩
  · split
    · exact ⟨by show 0 ≤ s.r ∧ s.r ≤ s.a ∧ s.a ≤ s.m + 1; omega, ap _ l1, l2, h.one⟩
    · exact ⟨by show 0 ≤ s.r ∧ s.r ≤ s.a ∧ s.a ≤ s.m + 1; omega, l1, ap _ l2, h.one⟩
theorem SV.confirm {s : SS} (h : SV s) {n : Int} (hn : n ∈ s.own ∨ n ∈ s.theirs) : SV (SS.pruned { s with a := n + 1 }) := by
  have ho := h.ord
  have : s.a ≤ n ∧ n < s.m := by rcases hn with hn | hn; exact h.own n hn; exact h.theirs n hn
  exact SV.prune (s := { s with a := n + 1 }) ⟨ho.1, by show s.r ≤ n + 1; omega, by show n + 1 ≤ s.m; omega⟩ h.one
theorem SV.on {s : SS} (h : SV s) (hm : 0 ≤ s.m ∧ s.m ≤ 999999) (e : Ev) : SV (onS s e).1 := by
  unfold onS
  split
  · rename_i hg
    obtain ⟨_, hk, hd, h2, h57, h7, h5⟩ := good_spec hg
    split
    · rename_i hw
      unfold userS
      split
      · exact h
      rename_i hwt
      have hwt' : s.wt = false := by cases q : s.wt; rfl; exact absurd q hwt
      split
      · rename_i hk7
        split
        · split
          · exact h.anew _ _ (h7 hk7).1
          · exact h
        · exact h
      split
      · exact h
      rename_i hkt
      split
      · split
        · exact h
        · split
          · exact h
          · exact h.point _ _
      split
      · split
        · rename_i hmem; exact h.confirm (.inr hmem)
        · exact h
      split
      · split
        · exact h.settled
        · exact h
      · unfold backS
        split
        · exact h
        · exact ⟨h.ord, h.own, h.theirs, fun hh => hkt hh.2⟩
    · rename_i hw
      have hw1 : e.way = 1 := by have := (good_spec hg).1; omega
      unfold belowS
      dsimp only
      split
      · exact h
      split
      · split
        · exact h
        · exact h.point _ _
      split
      · split
        · rename_i hmem; exact h.confirm (.inl hmem)
        · exact h
      split
      · split
        · exact h.settled
        · exact h
      split
      · unfold reqS
        split
        · exact h
        · split
          · exact h
          · exact ⟨h.ord, h.own, h.theirs, fun hh => by cases hh.1⟩
      · split
        · exact h.anew _ _ (hd hw1).1
        · exact h
  · exact h
end Go.Proofs.Ytjgmlnkbplgloaa
