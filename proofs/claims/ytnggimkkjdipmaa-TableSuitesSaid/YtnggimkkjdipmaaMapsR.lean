import Derived.Test.YtnggimkkjdipmaaMaps
import Derived.Maps.RangeWalk
namespace Go.Proofs.Ytnggimkkjdipmaa
open Go.RowKit
set_option linter.unusedVariables false
set_option linter.unusedSimpArgs false
set_option maxHeartbeats 16000000
set_option maxRecDepth 100000
/-! ### A range over a map: its entries in any order -/
section
variable {κ : Type} {f : κ → Value} {w w' : World} {b r : Nat} {l todo : List (κ × Value)} {P : Program}
/-- Block r goes through the map in block b; todo: the entries that are still to come, in some order. -/
def MapR (f : κ → Value) (w : World) (b r : Nat) (l todo : List (κ × Value)) : Prop :=
  ∃ es clock since seen c0, w.heap[b]? = some (.map es clock) ∧ Stamps es clock ∧ es.toList.map (fun e => (e.key, e.val)) = l.map (fun x => (f x.1, x.2)) ∧ w.heap[r]? = some (.mapIter (some b) since seen c0) ∧
    (∀ x ∈ es.toList, x.born < since) ∧ since ≤ c0 ∧ since ≤ clock ∧ (leftOf es seen).toList.map (fun e => (e.key, e.val)) = todo.map (fun x => (f x.1, x.2))
theorem MapR.lt (h : MapR f w b r l todo) : b < w.heap.size ∧ r < w.heap.size ∧ r ≠ b := by
  obtain ⟨es, c, si, se, c0, h1, _, _, h2, _⟩ := h
  refine ⟨(Array.getElem?_eq_some_iff.1 h1).1, (Array.getElem?_eq_some_iff.1 h2).1, fun e => ?_⟩
  rw [e, h1] at h2; cases h2
theorem MapR.fr (h : MapR f w b r l todo) {ex : List Nat} (hf : Fr ex w w') (hb : b ∉ ex) (hr : r ∉ ex) : MapR f w' b r l todo := by
  obtain ⟨l1, l2, _⟩ := h.lt
  obtain ⟨es, c, si, se, c0, h1, hs, he, h2, rest⟩ := h
  exact ⟨es, c, si, se, c0, (hf.block b l1 hb).trans h1, hs, he, (hf.block r l2 hr).trans h2, rest⟩
theorem MapK.range (h : MapK f w b l) {t k e : TypeId} (ht : P.underlying t = some (.map k e)) :
    ∃ w', (Instr.range t (.map (some b))).run P w = .ok (.pointer (some ⟨w.heap.size, 0, none⟩)) w' ∧ MapR f w' b w.heap.size l l ∧ Fr [] w w' := by
  have hl := h.lt
  obtain ⟨es, c, h, hst, he⟩ := h
  refine ⟨_, run_range_map w t k e b es c ht h, ⟨es, c, c, #[], c, (Below.heap_alloc w _ b hl).trans h, hst, he, World.alloc_heap_new w _, hst.lt, Nat.le_refl _, Nat.le_refl _, ?_⟩, (Fr.refl [] w).alloc _⟩
  have e1 : (leftOf es #[]).toList = es.toList := by
    unfold leftOf
    rw [Array.toList_filter, List.filter_eq_self]
    simp
  rw [e1]; exact he
theorem filter_one {es : List MapEntry} (e : MapEntry) : ∀ (es : List MapEntry), (es.map (·.born)).Nodup → e ∈ es → ∃ t1 t2, es = t1 ++ e :: t2 ∧ es.filter (fun x => !(x.born == e.born)) = t1 ++ t2
  | [], _, h => by simp at h
  | x :: es, hn, h => by
    rw [List.map_cons, List.nodup_cons] at hn
    by_cases hx : x.born = e.born
    · have hxe : x = e := by
        rcases List.mem_cons.mp h with h | h
        · exact h.symm
        · exact absurd (List.mem_map.mpr ⟨e, h, hx.symm⟩) hn.1
      subst hxe
      refine ⟨[], es, rfl, ?_⟩
      rw [List.filter_cons_of_neg (by simp), List.nil_append, List.filter_eq_self]
      intro y hy
      have : y.born ≠ x.born := fun e => hn.1 (List.mem_map.mpr ⟨y, hy, e⟩)
      simp [this]
    · have hm : e ∈ es := by
        rcases List.mem_cons.mp h with h | h
        · exact absurd (by rw [h]) hx
        · exact h
      obtain ⟨t1, t2, h1, h2⟩ := filter_one (es := es) e es hn.2 hm
      refine ⟨x :: t1, t2, by rw [h1]; rfl, ?_⟩
      rw [List.filter_cons_of_pos (by simp [hx]), h2]; rfl
theorem left_push (es : Array MapEntry) (seen : Array Nat) (n : Nat) : (leftOf es (seen.push n)).toList = (leftOf es seen).toList.filter (fun x => !(x.born == n)) := by
  unfold leftOf
  rw [Array.toList_filter, Array.toList_filter, List.filter_filter]
  congr 1
  funext x
  rw [contains_push]
  cases seen.contains x.born <;> cases (x.born == n) <;> rfl
theorem MapR.next (h : MapR f w b r l todo) (ty : TypeId) :
    (todo = [] ∧ (Instr.next (.pointer (some ⟨r, 0, none⟩)) false ty).run P w = .ok (.tuple #[.bool false]) w) ∨
    ∃ k v todo' w', todo.Perm ((k, v) :: todo') ∧ (Instr.next (.pointer (some ⟨r, 0, none⟩)) false ty).run P w = .ok (.tuple #[.bool true, f k, v]) w' ∧ MapR f w' b r l todo' ∧ Fr [r] w w' ∧ (Instr.entry (.pointer (some ⟨r, 0, none⟩))).run P w' = .ok (.tuple #[f k, v]) w' := by
  obtain ⟨_, l2, hne⟩ := h.lt
  obtain ⟨es, c, si, se, c0, hb, hst, heq, hr, hold, hsc, hsk, hl⟩ := h
  rcases run_next_at (P := P) w ty r b si c0 se es c hr hb hold hsc with ⟨h0, hrun⟩ | ⟨e, he, w1, hal, hrun⟩
  · refine .inl ⟨?_, hrun⟩
    have : (leftOf es se).toList = [] := by rw [← List.length_eq_zero_iff, Array.length_toList]; exact h0
    rw [this] at hl
    simpa using hl.symm
  · refine .inr ?_
    have hem : e ∈ es.toList := by unfold leftOf at he; simp at he ⊢; exact he.1
    have hnd : ((leftOf es se).toList.map (·.born)).Nodup := by
      unfold leftOf
      rw [Array.toList_filter]
      exact (List.Sublist.map _ List.filter_sublist).nodup hst.nd
    obtain ⟨t1, t2, e1, e2⟩ := filter_one (es := (leftOf es se).toList) e _ hnd he
    have hl' := hl
    rw [e1, List.map_append, List.map_cons] at hl'
    obtain ⟨d1, d2, ed, ed1, ed2⟩ := List.map_eq_append_iff.mp hl'.symm
    obtain ⟨⟨k, v⟩, d3, rfl, hkv, ed3⟩ := List.map_eq_cons_iff.mp ed2
    obtain ⟨hk, hv⟩ : f k = e.key ∧ v = e.val := by simpa using hkv
    have hr1 : w1.heap[r]? = some (.mapIter (some b) si se c0) := by rcases hal with rfl | rfl <;> exact hr
    have hb1 : w1.heap[b]? = some (.map es c) := by rcases hal with rfl | rfl <;> exact hb
    have hset := MapKept.heap_set (o' := .mapIter (some b) si (se.push e.born) c) hr1
    have hb' := (hset.2 b (fun e1 => hne e1.symm)).trans hb1
    refine ⟨k, v, d1 ++ d3, _, by rw [ed]; exact List.perm_middle, by rw [hk, hv]; exact hrun, ⟨es, c, si, se.push e.born, c, hb', hst, heq, hset.1, hold, hsk, hsk, ?_⟩, ?_, by rw [hk, hv]; exact run_entry_at _ r b si se es c e hset.1 hb' hem hst.nd⟩
    · rw [left_push, e2, List.map_append, List.map_append, ed1, ed3]
    · rcases hal with rfl | rfl
      · exact ⟨rfl, rfl, rfl, by simp [ChangeMaps.setBlock], fun i _ hi => hset.2 i (fun e1 => hi (by rw [e1]; simp))⟩
      · exact ⟨rfl, rfl, rfl, by show w.heap.size ≤ (Array.setIfInBounds _ _ _).size; rw [Array.size_setIfInBounds]; exact Nat.le_refl _, fun i _ hi => hset.2 i (fun e1 => hi (by rw [e1]; simp))⟩
variable {ops : Array Oper} {rest : List Oper} {o : Oper} {a : Act} {Q : Exit → Act → World → Prop}
theorem wpList_range_k (w : World) (hg : o.guard = none) (m : Operand) (t : TypeId) (hop : o.op = Op.range t m) (k e : TypeId) (ht : P.underlying t = some (.map k e)) (b : Nat) (f : κ → Value) (l : List (κ × Value))
    (hm : a.eval m = .map (some b)) (h : MapK f w b l) (hK : ∀ w', MapR f w' b w.heap.size l l → Fr [] w w' → wpList P ops Q rest (a.put o.dst (.pointer (some ⟨w.heap.size, 0, none⟩))) w') :
    wpList P ops Q (o :: rest) a w := by
  refine wpList_plain hg fun K' hK' => ?_
  obtain ⟨w', hrun, r1, r2⟩ := h.range (P := P) ht
  unfold Oper.wp
  simp [execOp, hop, hm, hrun, Result.andThen]
  exact hK' _ _ (hK w' r1 r2)
theorem wpList_next_k (w : World) (hg : o.guard = none) (it : Operand) (hop : o.op = Op.next it false) (b r : Nat) (f : κ → Value) (l todo : List (κ × Value)) (hit : a.eval it = .pointer (some ⟨r, 0, none⟩)) (h : MapR f w b r l todo)
    (hDone : todo = [] → wpList P ops Q rest (a.put o.dst (.tuple #[.bool false])) w)
    (hMore : ∀ k v todo' w', todo.Perm ((k, v) :: todo') → MapR f w' b r l todo' → Fr [r] w w' → (Instr.entry (.pointer (some ⟨r, 0, none⟩))).run P w' = .ok (.tuple #[f k, v]) w' → wpList P ops Q rest (a.put o.dst (.tuple #[.bool true, f k, v])) w') :
    wpList P ops Q (o :: rest) a w := by
  refine wpList_plain hg fun K' hK' => ?_
  unfold Oper.wp
  rcases h.next (P := P) o.type with ⟨h0, hrun⟩ | ⟨k, v, todo', w', hp, hrun, hR, hF, hen⟩
  · simp [execOp, hop, hit, hrun, Result.andThen]
    exact hK' _ _ (hDone h0)
  · simp [execOp, hop, hit, hrun, Result.andThen]
    exact hK' _ _ (hMore k v todo' w' hp hR hF hen)
end
end Go.Proofs.Ytnggimkkjdipmaa
