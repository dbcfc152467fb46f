import Derived.Test.YtkkmjjddalpocaaDoorRefP1
namespace Go.Proofs.YtkkmjjddalpocaaDoor
open Go.RowKit
set_option linter.unusedVariables false
set_option linter.unusedSimpArgs false
set_option maxHeartbeats 8000000
set_option maxRecDepth 20000
theorem Row.shape {k : Nat} {w : World} {v : Value} {n : Nat} {cs : List Value} {bo : Option Nat} (h : Row k w v n cs bo) : ∃ o cap, v = .slice o n cap ∧ n ≤ cap := by
  rcases h with ⟨_, rfl, _, o, rfl⟩ | ⟨b, off, cap, _, rfl, h, _⟩
  · exact ⟨_, _, rfl, Nat.le_refl _⟩
  · exact ⟨_, _, rfl, h⟩
theorem sizeEv : iEv.size = 6 := by kernel_rfl
/-- append(way, l..), l as a side tells it. -/
theorem Row.told {w : World} {v lv : Value} {l L : List Ev} {bo : Option Nat} {B0 : Nat} (h : Row 6 w v l.length (evCells l) bo) (hn : l.length < 1000000) (hL : EvRes B0 w lv L) :
    ∃ v' w' bo', (Builtin.append_ #[22, 22] 22 #[v, lv]).run Tryd.prog w = .ok v' w' ∧
      Row 6 w' v' (l ++ L).length (evCells (l ++ L)) bo' ∧ (bo' = bo ∨ ∃ z, bo' = some z ∧ w.heap.size ≤ z) ∧ Fr bo.toList w w' := by
  rcases hL with ⟨rfl, rfl⟩ | ⟨B, x, rfl, rfl, hx, _⟩
  · obtain ⟨o, cap, rfl, hle⟩ := h.shape
    have hsrc : Src Tryd.prog iEv.size 22 (.slice none 0 0) 0 [] w := Src.ofNil w uEvs' 0
    exact ⟨_, _, bo, run_append_nothing _ _ _ _ _ iEv uEvs' infoEv _ _ _ hle _ hsrc, by simpa using h, .inl rfl, Fr.refl _ _⟩
  · have hsrc : Src Tryd.prog 6 22 (.slice (some ⟨B, 0, none⟩) 1 1) 1 x.cells w := Src.ofSlice w uEvs' ⟨B, 0, none⟩ 1 1 x.cells rfl (fun j u hu => by rw [Addr.add_lit, hx.cell, Nat.zero_add]; exact hu) (by intro u hu; simp [Ev.cells] at hu; rcases hu with rfl | rfl | rfl | rfl | rfl | rfl <;> rfl)
    obtain ⟨v', w', bo', hrun, hr, hb, hf⟩ := h.append (t := 22) (ty := 22) (e := TEv) (i := iEv) (z := zEv) uEvs' infoEv (by kernel_rfl) (by kernel_rfl) (by omega) (by kernel_rfl) (of_decide_eq_true (by kernel_rfl)) hn hsrc (by omega) (by omega)
    refine ⟨v', w', bo', hrun, ?_, ?_, hf⟩
    · have hev : evCells (l ++ [x]) = evCells l ++ x.cells := by simp [evCells]
      rw [hev, List.length_append]
      exact hr
    · rcases hb with hb | hb
      · exact .inl hb
      · exact .inr ⟨_, hb, Nat.le_refl _⟩
/-- append([]api.Event{}, way[1:]..). -/
theorem Row.rest {w : World} {b off cap : Nat} {x : Ev} {r : List Ev} {bo : Option Nat} (h : Row 6 w (.slice (some ⟨b, off, none⟩) (r.length + 1) cap) (x :: r).length (evCells (x :: r)) bo) (hn : r.length < 1000000) :
    ∃ v' w' bo', (Builtin.append_ #[22, 22] 22 #[.slice (some ⟨w.heap.size, 0, none⟩) 0 0, if cap = 1 then Value.slice (some ⟨b, off, none⟩) r.length 0 else .slice (some ⟨b, off + 6, none⟩) r.length (cap - 1)]).run Tryd.prog (w.alloc (.cells #[] TEv)) = .ok v' w' ∧
      Row 6 w' v' r.length (evCells r) bo' ∧ (∀ z, bo' = some z → w.heap.size ≤ z) ∧ Fr [] w w' := by
  have f1 : Fr [] w (w.alloc (.cells #[] TEv)) := (Fr.refl [] w).alloc _
  rcases h with ⟨_, h, _⟩ | ⟨b', off', cap', rfl, hv, h3, h4, h5, h6, h7⟩
  · simp at h
  · cases hv
    by_cases hr0 : r = []
    · subst hr0
      have hsrc : Src Tryd.prog iEv.size 22 (if cap = 1 then Value.slice (some ⟨b, off, none⟩) ([] : List Ev).length 0 else .slice (some ⟨b, off + 6, none⟩) ([] : List Ev).length (cap - 1)) 0 [] (w.alloc (.cells #[] TEv)) := by
        split
        all_goals
          refine Src.mk (.inl ⟨_, uEvs'⟩) (fun w' => by simp [Builtin.lenOf, go_sem]) ?_ ?_ (by simp) (by simp)
          · simp [Builtin.firstCells, go_sem]
          · simp [Builtin.firstCells, go_sem]
      exact ⟨_, _, none, run_append_nothing _ _ _ _ _ iEv uEvs' infoEv _ 0 0 (Nat.le_refl _) _ hsrc, Row.nil 6 _ _, by simp, f1⟩
    · have hpos : 0 < r.length := by cases r with | nil => exact absurd rfl hr0 | cons _ _ => simp
      have hc1 : ¬ cap = 1 := by simp at h3; omega
      rw [if_neg hc1]
      have hlen : (evCells (x :: r)).length = 6 + (evCells r).length := by show (x.cells ++ evCells r).length = _; rw [List.length_append]; rfl
      simp only [List.length_cons] at h5 h7
      have hsrc : Src Tryd.prog 6 22 (.slice (some ⟨b, off + 6, none⟩) r.length (cap - 1)) r.length (evCells r) (w.alloc (.cells #[] TEv)) := Src.ofSlice _ uEvs' ⟨b, off + 6, none⟩ r.length (cap - 1) _ (by omega) (fun j u hu => by
          have hj : j < (evCells r).length := (List.getElem?_eq_some_iff.1 hu).1
          rw [Addr.add_lit, f1.cell (p := ⟨b, off + 6 + j, none⟩) h4 (by simp), Nat.add_assoc, h7 (6 + j) (by omega)]
          show (x.cells ++ evCells r)[6 + j]? = _
          rw [List.getElem?_append_right (show 6 ≤ 6 + j by omega)]
          rw [show 6 + j - x.cells.length = j by show 6 + j - 6 = j; omega]
          exact hu) (by
          intro u hu
          simp only [evCells, List.mem_flatMap] at hu
          obtain ⟨y, _, hy⟩ := hu
          simp [Ev.cells] at hy; rcases hy with rfl | rfl | rfl | rfl | rfl | rfl <;> rfl)
      obtain ⟨v', w', bo', hrun, hr, hb', hf⟩ := (Row.nil 6 (w.alloc (.cells #[] TEv)) (some ⟨w.heap.size, 0, none⟩)).append (t := 22) (ty := 22) (e := TEv) (i := iEv) (z := zEv) uEvs' infoEv (by kernel_rfl) (by kernel_rfl) (by omega) (by kernel_rfl) (of_decide_eq_true (by kernel_rfl)) (by omega) hsrc (by omega) hpos
      refine ⟨v', w', bo', hrun, by simpa using hr, fun z hz => ?_, f1.trans (by simpa using hf)⟩
      rcases hb' with h | h
      · rw [h] at hz; cases hz
      · rw [h] at hz; cases hz; exact f1.size
end Go.Proofs.YtkkmjjddalpocaaDoor
