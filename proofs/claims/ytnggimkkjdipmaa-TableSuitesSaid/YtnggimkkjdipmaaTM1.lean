import Derived.Test.YtnggimkkjdipmaaTC1
namespace Go.Proofs.Ytnggimkkjdipmaa
open Go.RowKit
set_option linter.unusedVariables false
set_option linter.unusedSimpArgs false
/-! ### Mutants, plain -/
abbrev Mut := Int × Int × (Int × Int)
def outM (o : Int) : Int := if o = 999 then 998 else o + 1
def nextsR (r : Int × Int) (k : Nat) : List Int := ((List.range k).map fun k : Nat => (k : Int)).filter fun n => decide (n ≠ r.1)
def mutRow (T : Tb) (s : Int) (e : Nat) (r : Int × Int) : List Mut := if r.1 < 0 then [] else (s, (e : Int), (r.1, outM r.2)) :: (nextsR r T.st.toNat).map fun n => (s, (e : Int), (n, r.2))
def mutRows (T : Tb) (s : Int) : Nat → List (Int × Int) → List Mut
  | _, [] => []
  | e, r :: rs => mutRow T s e r ++ mutRows T s (e + 1) rs
def mutS (T : Tb) (s : Int) : List Mut := mutRows T s 0 (T.rows.getD s.toNat [])
def mutL (T : Tb) : List Mut := (reachL T).flatMap (mutS T)
def mutTo (T : Tb) (i : Nat) : List Mut := ((reachL T).take i).flatMap (mutS T)
theorem mutRows_app (T : Tb) (s : Int) : ∀ (a b : List (Int × Int)) (e : Nat), mutRows T s e (a ++ b) = mutRows T s e a ++ mutRows T s (e + a.length) b
  | [], b, e => by simp [mutRows]
  | x :: a, b, e => by
    have := mutRows_app T s a b (e + 1)
    simp only [List.cons_append, mutRows, List.append_assoc, List.length_cons]
    rw [this, show e + 1 + a.length = e + (a.length + 1) by omega]
theorem mutRows_take (T : Tb) (s : Int) (row : List (Int × Int)) (j : Nat) (h : j < row.length) : mutRows T s 0 (row.take (j + 1)) = mutRows T s 0 (row.take j) ++ mutRow T s j row[j] := by
  rw [List.take_succ_eq_append_getElem h, mutRows_app, List.length_take, Nat.min_eq_left (by omega), Nat.zero_add]
  simp [mutRows]
theorem nextsR_succ (r : Int × Int) (k : Nat) : nextsR r (k + 1) = nextsR r k ++ if (k : Int) = r.1 then [] else [(k : Int)] := by
  unfold nextsR
  rw [List.range_succ, List.map_append, List.filter_append]
  congr 1
  by_cases h : (k : Int) = r.1 <;> simp [h]
theorem mutTo_zero (T : Tb) : mutTo T 0 = [] := rfl
theorem mutTo_all (T : Tb) : mutTo T (reachL T).length = mutL T := by unfold mutTo mutL; rw [List.take_length]
theorem mutTo_succ (T : Tb) (i : Nat) (h : i < (reachL T).length) (s : Nat) (hs : (reachL T)[i] = (s : Int)) (row : List (Int × Int)) (hr : T.rows.getD s [] = row) : mutTo T (i + 1) = mutTo T i ++ mutRows T s 0 row := by
  unfold mutTo
  have e : T.rows.getD ((s : Int)).toNat [] = row := by rw [show ((s : Int)).toNat = s by omega]; exact hr
  rw [List.take_succ_eq_append_getElem h, List.flatMap_append, hs, List.flatMap_cons, List.flatMap_nil, List.append_nil, mutS, e]
/-- A beginning of the mutants: what is behind it. -/
theorem mutTo_pre (T : Tb) (i : Nat) : ∃ R, mutL T = mutTo T i ++ R := ⟨((reachL T).drop i).flatMap (mutS T), by
  unfold mutL mutTo
  rw [← List.flatMap_append, List.take_append_drop]⟩
theorem mutRows_pre (T : Tb) (s : Int) (row : List (Int × Int)) (j : Nat) : ∃ R, mutRows T s 0 row = mutRows T s 0 (row.take j) ++ R := ⟨mutRows T s (0 + (row.take j).length) (row.drop j), by
  rw [← mutRows_app, List.take_append_drop]⟩
theorem nextsR_pre (r : Int × Int) : ∀ (d k : Nat), ∃ R, nextsR r (k + d) = nextsR r k ++ R
  | 0, k => ⟨[], by simp⟩
  | d + 1, k => by
    obtain ⟨R, h⟩ := nextsR_pre r d k
    exact ⟨R ++ if ((k + d : Nat) : Int) = r.1 then [] else [((k + d : Nat) : Int)], by rw [← Nat.add_assoc, nextsR_succ, h, List.append_assoc]⟩
/-- Up to the innermost loop's k-th round. -/
def mutIn (T : Tb) (i : Nat) (s : Int) (row : List (Int × Int)) (j : Nat) (r : Int × Int) (k : Nat) : List Mut := mutTo T i ++ mutRows T s 0 (row.take j) ++ (s, (j : Int), (r.1, outM r.2)) :: (nextsR r k).map fun n => (s, (j : Int), (n, r.2))
theorem mutIn_zero (T : Tb) (i : Nat) (s : Int) (row : List (Int × Int)) (j : Nat) (r : Int × Int) : mutIn T i s row j r 0 = mutTo T i ++ mutRows T s 0 (row.take j) ++ [(s, (j : Int), (r.1, outM r.2))] := rfl
theorem mutIn_succ (T : Tb) (i : Nat) (s : Int) (row : List (Int × Int)) (j : Nat) (r : Int × Int) (k : Nat) : mutIn T i s row j r (k + 1) = mutIn T i s row j r k ++ if (k : Int) = r.1 then [] else [(s, (j : Int), ((k : Int), r.2))] := by
  unfold mutIn
  rw [nextsR_succ, List.map_append]
  split <;> simp
theorem mutIn_all (T : Tb) (i : Nat) (s : Int) (row : List (Int × Int)) (j : Nat) (h : j < row.length) (r : Int × Int) (hr : row[j] = r) (hn : 0 ≤ r.1) : mutIn T i s row j r T.st.toNat = mutTo T i ++ mutRows T s 0 (row.take (j + 1)) := by
  rw [mutRows_take T s row j h, hr]
  unfold mutIn mutRow
  rw [if_neg (by omega), List.append_assoc]
theorem mut_first (T : Tb) (i : Nat) (h : i < (reachL T).length) (s : Nat) (hs : (reachL T)[i] = (s : Int)) (row : List (Int × Int)) (hrow : T.rows.getD s [] = row) (j : Nat) (hj : j < row.length) (r : Int × Int) (hr : row[j] = r) (hn : 0 ≤ r.1) :
    ∃ R, mutL T = (mutTo T i ++ mutRows T s 0 (row.take j)) ++ ((s : Int), (j : Int), (r.1, outM r.2)) :: R := by
  obtain ⟨R1, h1⟩ := mutTo_pre T (i + 1)
  rw [mutTo_succ T i h s hs row hrow] at h1
  obtain ⟨R2, h2⟩ := mutRows_pre T s row (j + 1)
  rw [h2, mutRows_take T s row j hj, hr] at h1
  unfold mutRow at h1
  rw [if_neg (by omega)] at h1
  exact ⟨(nextsR r T.st.toNat).map (fun n => ((s : Int), (j : Int), (n, r.2))) ++ (R2 ++ R1), by rw [h1]; simp only [List.append_assoc, List.cons_append]⟩
theorem mut_more (T : Tb) (i : Nat) (h : i < (reachL T).length) (s : Nat) (hs : (reachL T)[i] = (s : Int)) (row : List (Int × Int)) (hrow : T.rows.getD s [] = row) (j : Nat) (hj : j < row.length) (r : Int × Int) (hr : row[j] = r) (hn : 0 ≤ r.1) (k : Nat) (hk : k < T.st.toNat) (hkr : (k : Int) ≠ r.1) :
    ∃ R, mutL T = mutIn T i s row j r k ++ ((s : Int), (j : Int), ((k : Int), r.2)) :: R := by
  obtain ⟨R1, h1⟩ := mutTo_pre T (i + 1)
  rw [mutTo_succ T i h s hs row hrow] at h1
  obtain ⟨R2, h2⟩ := mutRows_pre T s row (j + 1)
  rw [h2, mutRows_take T s row j hj, hr] at h1
  obtain ⟨R3, h3⟩ := nextsR_pre r (T.st.toNat - (k + 1)) (k + 1)
  rw [show k + 1 + (T.st.toNat - (k + 1)) = T.st.toNat by omega, nextsR_succ, if_neg hkr] at h3
  unfold mutRow at h1
  rw [if_neg (by omega), h3] at h1
  unfold mutIn
  exact ⟨R3.map (fun n => ((s : Int), (j : Int), (n, r.2))) ++ (R2 ++ R1), by rw [h1]; simp only [List.append_assoc, List.cons_append, List.map_append, List.map_cons, List.map_nil, List.nil_append]⟩
/-- What is named of a mutant is there. -/
def MutOk (T : Tb) (x : Mut) : Prop := 0 ≤ x.1 ∧ x.1 < T.st ∧ 0 ≤ x.2.1 ∧ x.2.1 < T.ev ∧ 0 ≤ x.2.2.1 ∧ x.2.2.1 < T.st ∧ 0 ≤ x.2.2.2 ∧ x.2.2.2 ≤ 999
theorem mutRow_ok {T : Tb} (hT : VT T) (s : Int) (h0 : 0 ≤ s) (h1 : s < T.st) (e : Nat) (he : (e : Int) < T.ev) (r : Int × Int) (hr : r.1 < T.st ∧ 0 ≤ r.2 ∧ r.2 ≤ 999) : ∀ x ∈ mutRow T s e r, MutOk T x := by
  intro x hx
  unfold mutRow at hx
  split at hx
  · simp at hx
  · rename_i hn
    rcases List.mem_cons.mp hx with rfl | hx
    · refine ⟨h0, h1, by show (0 : Int) ≤ (e : Int); omega, he, by show 0 ≤ r.1; omega, hr.1, ?_⟩
      dsimp only
      unfold outM
      split <;> omega
    · obtain ⟨n, hm, rfl⟩ := List.mem_map.mp hx
      unfold nextsR at hm
      obtain ⟨q, hq, rfl⟩ := List.mem_map.mp (List.mem_filter.mp hm).1
      have := List.mem_range.mp hq
      exact ⟨h0, h1, by show (0 : Int) ≤ (e : Int); omega, he, by show (0 : Int) ≤ (q : Int); omega, by show (q : Int) < T.st; omega, hr.2.1, hr.2.2⟩
theorem mutRows_ok {T : Tb} (hT : VT T) (s : Int) (h0 : 0 ≤ s) (h1 : s < T.st) : ∀ (l : List (Int × Int)) (e : Nat), (e : Int) + l.length ≤ T.ev → (∀ r ∈ l, r.1 < T.st ∧ 0 ≤ r.2 ∧ r.2 ≤ 999) → ∀ x ∈ mutRows T s e l, MutOk T x
  | [], e, _, _, x, hx => by simp [mutRows] at hx
  | r :: l, e, he, hl, x, hx => by
    simp only [List.length_cons] at he
    simp only [mutRows, List.mem_append] at hx
    rcases hx with hx | hx
    · exact mutRow_ok hT s h0 h1 e (by omega) r (hl r (by simp)) x hx
    · exact mutRows_ok hT s h0 h1 l (e + 1) (by omega) (fun r hr => hl r (by simp [hr])) x hx
theorem mutS_ok {T : Tb} (hT : VT T) (s : Int) (h0 : 0 ≤ s) (h1 : s < T.st) : ∀ x ∈ mutS T s, MutOk T x := by
  have hs := hT.len h0 h1
  unfold mutS
  rw [List.getD_eq_getElem?_getD, List.getElem?_eq_getElem hs]
  have hl := hT.row _ (List.getElem_mem hs)
  have hc := hT.cell _ (List.getElem_mem hs)
  exact mutRows_ok hT s h0 h1 _ 0 (by simp only [Option.getD_some]; omega) (fun r hr => by have := hc r hr; omega)
theorem mutL_ok {T : Tb} (hT : VT T) : ∀ x ∈ mutL T, MutOk T x := by
  intro x hx
  obtain ⟨s, hs, hx⟩ := List.mem_flatMap.mp hx
  have := (order_ok hT).rng s ((reachL_mem hT s).mp hs)
  exact mutS_ok hT s this.1 this.2 x hx
/-- A table with another row. -/
def Tb.chg (T : Tb) (x : Mut) : Tb := { T with rows := T.rows.set x.1.toNat ((T.rows.getD x.1.toNat []).set x.2.1.toNat x.2.2) }
theorem VT.chg {T : Tb} (h : VT T) {x : Mut} (hx : MutOk T x) : VT (T.chg x) := by
  obtain ⟨a1, a2, a3, a4, a5, a6, a7, a8⟩ := hx
  have hs := h.len a1 a2
  have key : ∀ l ∈ (T.chg x).rows, l ∈ T.rows ∨ l = (T.rows[x.1.toNat]).set x.2.1.toNat x.2.2 := fun l hl => by
    have e : (T.chg x).rows = T.rows.set x.1.toNat ((T.rows[x.1.toNat]).set x.2.1.toNat x.2.2) := by
      unfold Tb.chg; rw [List.getD_eq_getElem?_getD, List.getElem?_eq_getElem hs]; rfl
    rw [e] at hl
    exact List.mem_or_eq_of_mem_set hl
  refine ⟨h.st, h.ev, h.sr, by unfold Tb.chg; simp [h.rows], fun l hl => ?_, fun l hl r hr => ?_⟩
  · rcases key l hl with h1 | rfl
    · exact h.row l h1
    · rw [List.length_set]; exact h.row _ (List.getElem_mem hs)
  · rcases key l hl with h1 | rfl
    · exact h.cell l h1 r hr
    · rcases List.mem_or_eq_of_mem_set hr with h2 | rfl
      · exact h.cell _ (List.getElem_mem hs) r h2
      · show -1 ≤ x.2.2.1 ∧ x.2.2.1 < T.st ∧ 0 ≤ x.2.2.2 ∧ x.2.2.2 ≤ 999 ∧ (x.2.2.1 < 0 → x.2.2.2 = 0)
        omega
def Tb.none : Tb := ⟨0, 0, 0, []⟩
/-- Mutant. -/
def mutantF (T : Tb) (n : Int) : Tb × Int := if validT T then (if 0 ≤ n then match (mutL T)[n.toNat]? with | some x => (T.chg x, 0) | .none => (Tb.none, 3) else (Tb.none, 3)) else (Tb.none, 1)
end Go.Proofs.Ytnggimkkjdipmaa
