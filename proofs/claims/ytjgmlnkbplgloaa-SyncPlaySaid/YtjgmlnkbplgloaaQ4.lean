import Derived.Test.YtjgmlnkbplgloaaQ3
namespace Go.Proofs.Ytjgmlnkbplgloaa
open Go.RowKit
set_option linter.unusedVariables false
set_option linter.unusedSimpArgs false
set_option maxHeartbeats 8000000
set_option maxRecDepth 20000
/-! ### Plain: the phases of SyncResets -/
theorem if_eq {α β : Type} {p : Prop} [Decidable p] {x y : α} (f : α → β) (z : β) (hx : f x = z) (hy : f y = z) : f (if p then x else y) = z := by split <;> assumption
theorem on_first (s : SS) (e : Ev) : (onS s e).1.first = s.first := by
  have hu : (userS s e).1.first = s.first := by
    unfold userS backS
    repeat' (first | refine if_eq (fun x : SS × List Ev × Int => x.1.first) _ ?_ ?_ | (show (pt1 s e.kind true).first = s.first; exact (kept_pt1 s _ _).first) | exact rfl)
  have hb : (belowS s e).1.first = s.first := by
    unfold belowS reqS
    repeat' (first | refine if_eq (fun x : SS × List Ev => x.1.first) _ ?_ ?_ | (show (pt1 s e.kind false).first = s.first; exact (kept_pt1 s _ _).first) | exact rfl)
  unfold onS
  exact if_eq (fun x : SS × List Ev × Int => x.1.first) _ (if_eq (fun x : SS × List Ev × Int => x.1.first) _ hu hb) rfl
theorem downs_one (s : SS) (e : Ev) : (downs (onS s e).2.1).length ≤ 1 := Nat.le_trans (List.length_filter_le _ _) (on_one s e)
/-- A side j did what it did: it is s', r is still on the way to it, out went to the other one. -/
def stpS (sd : Bool → SS) (j : Bool) (s' : SS) : Bool → SS := upd sd j s'
def stpQ (q : Bool → List Ev) (j : Bool) (r out : List Ev) : Bool → List Ev := upd (upd q j r) (!j) (q (!j) ++ out)
structure Ph (D : Nat) (N : Int) (g0 g1 : Bool) (i : Nat) (sd : Bool → SS) (q : Bool → List Ev) : Prop where
  sj : ∀ j, SJ i (sd j)
  fst : ∀ j, (sd j).first = !j
  len : ∀ j, (q j).length ≤ i
  a : i ≤ D → J0 N (sd false) (sd true) (q false) (q true)
  b : i = D + 1 → (g0 = true → JB N (sd false) (sd true) (q false) (q true)) ∧ (g0 = false → J0 N (sd false) (sd true) (q false) (q true))
  c : D + 2 ≤ i → (g0 || g1) = true → JC (sd false) (sd true) (q false) (q true) ∨ JC (sd true) (sd false) (q true) (q false)
section
variable {D : Nat} {N : Int} {g0 g1 : Bool} {i : Nat} {sd : Bool → SS} {q : Bool → List Ev}
theorem Ph.base (h : Ph D N g0 g1 i sd q) (j : Bool) {s' : SS} {r out : List Ev} (hs : SJ (i + 1) s') (hf : s'.first = (sd j).first) (hr : r.length ≤ i) (ho : out.length ≤ 1) :
    (∀ k, SJ (i + 1) (stpS sd j s' k)) ∧ (∀ k, (stpS sd j s' k).first = !k) ∧ ∀ k, (stpQ q j r out k).length ≤ i + 1 := by
  refine ⟨fun k => ?_, fun k => ?_, fun k => ?_⟩
  · unfold stpS upd; split
    · exact hs
    · exact (h.sj k).le (by omega)
  · unfold stpS upd; split
    · rename_i e; subst e; rw [hf]; exact h.fst k
    · exact h.fst k
  · have h1 := h.len k
    have h2 := h.len (!j)
    unfold stpQ upd; split
    · simp; omega
    · split <;> omega
theorem act_len (s : SS) (r : List Ev) : (actK s r).2.1.length ≤ r.length ∧ (actK s r).2.2.length ≤ 1 ∧ (actK s r).1.first = s.first := by
  unfold actK
  split
  · exact ⟨Nat.le_refl _, downs_one _ _, on_first _ _⟩
  · split
    · exact ⟨by simp, by simp, rfl⟩
    · exact ⟨by simp, downs_one _ _, on_first _ _⟩
/-- Nothing is asked: side j goes on. -/
theorem Ph.k (h : Ph D N g0 g1 i sd q) (j : Bool) (hj : i < D ∨ (i = D ∧ g0 = false ∧ j = false) ∨ (i = D + 1 ∧ g1 = false ∧ j = true) ∨ D + 2 ≤ i) :
    Ph D N g0 g1 (i + 1) (stpS sd j (actK (sd j) (q j)).1) (stpQ q j (actK (sd j) (q j)).2.1 (actK (sd j) (q j)).2.2) := by
  obtain ⟨l1, l2, l3⟩ := act_len (sd j) (q j)
  obtain ⟨b1, b2, b3⟩ := h.base j ((h.sj j).act (q j)) l3 (Nat.le_trans l1 (h.len j)) l2
  have j0 : J0 N (sd false) (sd true) (q false) (q true) → J0 N (stpS sd j (actK (sd j) (q j)).1 false) (stpS sd j (actK (sd j) (q j)).1 true) (stpQ q j (actK (sd j) (q j)).2.1 (actK (sd j) (q j)).2.2 false) (stpQ q j (actK (sd j) (q j)).2.1 (actK (sd j) (q j)).2.2 true) := fun k => by
    cases j
    · exact k.act
    · exact k.swap.act.swap
  have jc : JC (sd false) (sd true) (q false) (q true) ∨ JC (sd true) (sd false) (q true) (q false) →
      JC (stpS sd j (actK (sd j) (q j)).1 false) (stpS sd j (actK (sd j) (q j)).1 true) (stpQ q j (actK (sd j) (q j)).2.1 (actK (sd j) (q j)).2.2 false) (stpQ q j (actK (sd j) (q j)).2.1 (actK (sd j) (q j)).2.2 true) ∨ JC (stpS sd j (actK (sd j) (q j)).1 true) (stpS sd j (actK (sd j) (q j)).1 false) (stpQ q j (actK (sd j) (q j)).2.1 (actK (sd j) (q j)).2.2 true) (stpQ q j (actK (sd j) (q j)).2.1 (actK (sd j) (q j)).2.2 false) := fun k => by
    cases j
    · rcases k with k | k
      · exact .inl k.actx
      · exact .inr (k.acty (h.sj false).m0)
    · rcases k with k | k
      · exact .inl (k.acty (h.sj true).m0)
      · exact .inr k.actx
  refine ⟨b1, b2, b3, fun hi => j0 (h.a (by omega)), fun hi => ⟨fun hg => ?_, fun hg => j0 (h.a (by omega))⟩, fun hi hg => ?_⟩
  · rcases hj with hj | ⟨_, hj, _⟩ | hj | hj
    · omega
    · rw [hg] at hj; cases hj
    · omega
    · omega
  · rcases hj with hj | hj | ⟨h1, h2, h3⟩ | hj
    · omega
    · omega
    · have g0t : g0 = true := by rw [h2] at hg; simpa using hg
      exact jc (.inl ((h.b h1).1 g0t).jc)
    · exact jc (h.c hj hg)
/-- Side j sets a point. -/
theorem Ph.pt (h : Ph D N g0 g1 i sd q) (j : Bool) (hj : i < D) :
    Ph D N g0 g1 (i + 1) (stpS sd j (onS (sd j) ptE).1) (stpQ q j (q j) (downs (onS (sd j) ptE).2.1)) := by
  obtain ⟨b1, b2, b3⟩ := h.base j ((h.sj j).on ptE) (on_first _ _) (h.len j) (downs_one (sd j) ptE)
  have j0 : J0 N (sd false) (sd true) (q false) (q true) → J0 N (stpS sd j (onS (sd j) ptE).1 false) (stpS sd j (onS (sd j) ptE).1 true) (stpQ q j (q j) (downs (onS (sd j) ptE).2.1) false) (stpQ q j (q j) (downs (onS (sd j) ptE).2.1) true) := fun k => by
    cases j
    · exact k.pt
    · exact k.swap.pt.swap
  exact ⟨b1, b2, b3, fun hi => j0 (h.a (by omega)), by omega, by omega⟩
theorem Ph.ask0 (h : Ph D N g0 g1 i sd q) (hi : i = D) (hg : g0 = true) (hN : 0 ≤ N ∧ N ≤ 999999) {how : Int} (hh : how = 0 ∨ how = 1 ∨ how = 2) :
    Ph D N g0 g1 (i + 1) (stpS sd false (onS (sd false) (beginE how N)).1) (stpQ q false (q false) (downs (onS (sd false) (beginE how N)).2.1)) := by
  obtain ⟨b1, b2, b3⟩ := h.base false ((h.sj false).on (beginE how N)) (on_first _ _) (h.len false) (downs_one (sd false) (beginE how N))
  refine ⟨b1, b2, b3, by omega, fun _ => ⟨fun _ => (h.a (by omega)).ask hN hh (h.sj false).m0.2, fun h2 => ?_⟩, by omega⟩
  rw [hg] at h2; cases h2
theorem Ph.ask1 (h : Ph D N g0 g1 i sd q) (hi : i = D + 1) (hg : g1 = true) (hN : 0 ≤ N ∧ N ≤ 999999) {how : Int} (hh : how = 0 ∨ how = 1 ∨ how = 2) :
    Ph D N g0 g1 (i + 1) (stpS sd true (onS (sd true) (beginE how N)).1) (stpQ q true (q true) (downs (onS (sd true) (beginE how N)).2.1)) := by
  obtain ⟨b1, b2, b3⟩ := h.base true ((h.sj true).on (beginE how N)) (on_first _ _) (h.len true) (downs_one (sd true) (beginE how N))
  refine ⟨b1, b2, b3, by omega, by omega, fun _ _ => ?_⟩
  obtain ⟨hb1, hb0⟩ := h.b hi
  cases hg0 : g0
  · exact .inr ((hb0 hg0).swap.ask hN hh (h.sj true).m0.2).jc
  · exact (hb1 hg0).ask hN hh (h.sj true).m0.2 (by have h1 := h.fst false; have h2 := h.fst true; show (sd false).first = !(sd true).first; rw [h1, h2]; rfl)
theorem Ph.r0 (h : Ph D N g0 g1 i sd q) (hi : i = D) : (sd false).r = N := (h.a (by omega)).1.2.2.1
theorem Ph.r1 (h : Ph D N g0 g1 i sd q) (hi : i = D + 1) : (sd true).r = N := by
  obtain ⟨hb1, hb0⟩ := h.b hi
  cases hg0 : g0
  · exact (hb0 hg0).2.1.2.2.1
  · obtain ⟨_, _, _, _, _, _, _, _, _, _, _, hy, _⟩ := hb1 hg0
    exact hy.2.2.1
theorem Ph.done (h : Ph D N g0 g1 i sd q) (hi : D + 2 ≤ i) (hg : (g0 || g1) = true) (hq : ∀ j, q j = []) (hk : ∀ j, (sd j).kt = false) : (sd false).m = (sd true).m ∧ ∀ j, (sd j).wt = false := by
  rcases h.c hi hg with k | k
  · obtain ⟨h1, h2, h3⟩ := k.done (hq _) (hq _) (hk _) (hk _)
    exact ⟨h1, fun j => by cases j; exact h2; exact h3⟩
  · obtain ⟨h1, h2, h3⟩ := k.done (hq _) (hq _) (hk _) (hk _)
    exact ⟨h1.symm, fun j => by cases j; exact h3; exact h2⟩
end
/-- The start. -/
theorem Ph.start (D : Nat) (N : Int) (g0 g1 : Bool) (hN : 0 ≤ N ∧ N ≤ 999999) : Ph D N g0 g1 0 (fun j => ⟨true, !j, N, N, N, 0, [], [], false, 0, 0, false, 0, 0⟩) (fun _ => []) :=
  ⟨fun j => ⟨rfl, hN, .inl rfl, by simp, by simp⟩, fun j => rfl, by simp, fun _ => ⟨⟨rfl, rfl, rfl, Int.le_refl _⟩, ⟨rfl, rfl, rfl, Int.le_refl _⟩, by simp, by simp⟩, by omega, by omega⟩
end Go.Proofs.Ytjgmlnkbplgloaa
