import Derived.Test.YtjgmlnkbplgloaaS14
namespace Go.Proofs.Ytjgmlnkbplgloaa
open Go.RowKit
set_option linter.unusedVariables false
set_option linter.unusedSimpArgs false
set_option maxHeartbeats 8000000
set_option maxRecDepth 20000
/-! ### Plain: what is always so of a side, with its lists' lengths -/
structure SJ (k : Nat) (s : SS) : Prop where
  made : s.made = true
  m0 : 0 ≤ s.m ∧ s.m ≤ 999999
  wh : s.wh = 0 ∨ s.wh = 1 ∨ s.wh = 2
  own : s.own.length ≤ k
  theirs : s.theirs.length ≤ k
theorem SJ.si {k : Nat} {s : SS} (h : SJ k s) (hk : k < 900000) : SI s := ⟨h.made, h.m0, h.wh, by have := h.own; omega, by have := h.theirs; omega⟩
theorem SJ.le {k k' : Nat} {s : SS} (h : SJ k s) (hk : k ≤ k') : SJ k' s := ⟨h.made, h.m0, h.wh, Nat.le_trans h.own hk, Nat.le_trans h.theirs hk⟩
theorem SJ.pruned {k : Nat} {s : SS} (h : SJ k s) : SJ k s.pruned := ⟨h.made, h.m0, h.wh, Nat.le_trans (keep_len _ _) h.own, Nat.le_trans (keep_len _ _) h.theirs⟩
theorem SJ.settled {k : Nat} {s : SS} (h : SJ k s) : SJ k s.settled := SJ.pruned (s := { s with a := s.m, r := s.m, major := 0 }) ⟨h.made, h.m0, h.wh, h.own, h.theirs⟩
theorem SJ.anew {k : Nat} {s : SS} (h : SJ k s) (how n : Int) (hn : 0 ≤ n ∧ n ≤ 999999) : SJ k (s.anew how n) := by
  have h1 : SJ k (s.reset how n).pruned := SJ.pruned ⟨h.made, hn, h.wh, h.own, h.theirs⟩
  exact ⟨h1.made, h1.m0, .inl rfl, h1.own, h1.theirs⟩
theorem SJ.point {k : Nat} {s : SS} (h : SJ k s) (kd : Int) (mine : Bool) (hm : s.m < 999999) : SJ (k + 1) (pt1 s kd mine) := by
  have h1 := h.own
  have h2 := h.theirs
  have h3 := h.m0
  unfold pt1
  split
  · exact ⟨h.made, ⟨by show 0 ≤ s.m + 1; omega, by show s.m + 1 ≤ 999999; omega⟩, h.wh, by show s.own.length ≤ k + 1; omega, by show s.theirs.length ≤ k + 1; omega⟩
  · split
    · exact ⟨h.made, ⟨by show 0 ≤ s.m + 1; omega, by show s.m + 1 ≤ 999999; omega⟩, h.wh, by show (s.own ++ [s.m]).length ≤ k + 1; simp; omega, by show s.theirs.length ≤ k + 1; omega⟩
    · exact ⟨h.made, ⟨by show 0 ≤ s.m + 1; omega, by show s.m + 1 ≤ 999999; omega⟩, h.wh, by show s.own.length ≤ k + 1; omega, by show (s.theirs ++ [s.m]).length ≤ k + 1; simp; omega⟩
theorem SJ.on {k : Nat} {s : SS} (h : SJ k s) (e : Ev) : SJ (k + 1) (onS s e).1 := by
  have hle := h.le (Nat.le_succ k)
  unfold onS
  split
  · rename_i hg
    obtain ⟨_, hk, hd, h2, h57, h7, h5⟩ := good_spec hg
    split
    · rename_i hw
      unfold userS
      split
      · exact hle
      split
      · rename_i hk7
        split
        · split
          · exact (hle.anew _ _ (h7 hk7))
          · exact hle
        · exact hle
      split
      · exact hle
      split
      · split
        · exact hle
        · split
          · exact hle
          · exact h.point _ _ (by omega)
      split
      · rename_i hk2
        split
        · exact SJ.pruned (s := { s with a := e.a + 1 }) ⟨hle.made, hle.m0, hle.wh, hle.own, hle.theirs⟩
        · exact hle
      split
      · split
        · exact hle.settled
        · exact hle
      · rename_i n1 n2 n3 n4 n5
        have hk5 : e.kind = 5 := by unfold kinds at hk; omega
        unfold backS
        split
        · exact hle
        · exact ⟨hle.made, hle.m0, h57 (.inl hk5), hle.own, hle.theirs⟩
    · rename_i hw
      have hw1 : e.way = 1 := by have := (good_spec hg).1; omega
      unfold belowS
      dsimp only
      split
      · exact hle
      split
      · split
        · exact hle
        · exact h.point _ _ (by omega)
      split
      · split
        · exact SJ.pruned (s := { s with a := e.a + 1 }) ⟨hle.made, hle.m0, hle.wh, hle.own, hle.theirs⟩
        · exact hle
      split
      · split
        · exact hle.settled
        · exact hle
      split
      · unfold reqS
        split
        · exact hle
        · split
          · exact hle
          · exact ⟨hle.made, hle.m0, .inl rfl, hle.own, hle.theirs⟩
      · split
        · exact hle.anew _ _ (hd hw1)
        · exact hle
  · exact hle
theorem if_one {α β : Type} {p : Prop} [Decidable p] {x y : α} (f : α → List β) (hx : (f x).length ≤ 1) (hy : (f y).length ≤ 1) : (f (if p then x else y)).length ≤ 1 := by split <;> assumption
theorem user_one (s : SS) (e : Ev) : (userS s e).2.1.length ≤ 1 := by
  unfold userS backS
  repeat' (first | refine if_one (fun x : SS × List Ev × Int => x.2.1) ?_ ?_ | (show (List.length _) ≤ 1; simp; done))
theorem below_one (s : SS) (e : Ev) : (belowS s e).2.length ≤ 1 := by
  unfold belowS reqS
  repeat' (first | refine if_one (fun x : SS × List Ev => x.2) ?_ ?_ | (show (List.length _) ≤ 1; simp; done))
/-- At most one event comes of an event. -/
theorem on_one (s : SS) (e : Ev) : (onS s e).2.1.length ≤ 1 := by
  unfold onS
  refine if_one (fun x : SS × List Ev × Int => x.2.1) (if_one (fun x : SS × List Ev × Int => x.2.1) (user_one s e) (below_one s e)) (by simp)
end Go.Proofs.Ytjgmlnkbplgloaa
