import Derived.Test.YtnggimkkjdipmaaRow
namespace Go.Proofs.Ytnggimkkjdipmaa
open Go.RowKit
set_option linter.unusedVariables false
set_option linter.unusedSimpArgs false
/-! ### Tables, plain -/
structure Tb where
  st : Int
  ev : Int
  sr : Int
  rows : List (List (Int × Int))
def rowOk (st : Int) (r : Int × Int) : Bool := decide (-1 ≤ r.1) && decide (r.1 < st) && decide (0 ≤ r.2) && decide (r.2 ≤ 999) && (decide (0 ≤ r.1) || decide (r.2 = 0))
def rowsOk (T : Tb) : Bool := T.rows.all fun l => decide ((l.length : Int) = T.ev) && l.all (rowOk T.st)
def headOk (T : Tb) : Bool := decide (1 ≤ T.st) && decide (T.st ≤ 30) && decide (1 ≤ T.ev) && decide (T.ev ≤ 12) && decide (0 ≤ T.sr) && decide (T.sr < T.st) && decide ((T.rows.length : Int) = T.st)
def validT (T : Tb) : Bool := headOk T && rowsOk T
/-- What a valid table is good for. -/
structure VT (T : Tb) : Prop where
  st : 1 ≤ T.st ∧ T.st ≤ 30
  ev : 1 ≤ T.ev ∧ T.ev ≤ 12
  sr : 0 ≤ T.sr ∧ T.sr < T.st
  rows : (T.rows.length : Int) = T.st
  row : ∀ l ∈ T.rows, (l.length : Int) = T.ev
  cell : ∀ l ∈ T.rows, ∀ r ∈ l, -1 ≤ r.1 ∧ r.1 < T.st ∧ 0 ≤ r.2 ∧ r.2 ≤ 999 ∧ (r.1 < 0 → r.2 = 0)
theorem validT_iff (T : Tb) : validT T = true ↔ VT T := by
  constructor
  · intro h
    simp only [validT, headOk, rowsOk, rowOk, Bool.and_eq_true, Bool.or_eq_true, decide_eq_true_eq, List.all_eq_true] at h
    obtain ⟨⟨⟨⟨⟨⟨⟨h1, h2⟩, h3⟩, h4⟩, h5⟩, h6⟩, h7⟩, h8⟩ := h
    refine ⟨⟨h1, h2⟩, ⟨h3, h4⟩, ⟨h5, h6⟩, h7, fun l hl => (h8 l hl).1, fun l hl r hr => ?_⟩
    have := (h8 l hl).2 r hr
    omega
  · intro h
    simp only [validT, headOk, rowsOk, rowOk, Bool.and_eq_true, Bool.or_eq_true, decide_eq_true_eq, List.all_eq_true]
    refine ⟨⟨⟨⟨⟨⟨⟨h.st.1, h.st.2⟩, h.ev.1⟩, h.ev.2⟩, h.sr.1⟩, h.sr.2⟩, h.rows⟩, fun l hl => ⟨h.row l hl, fun r hr => ?_⟩⟩
    have := h.cell l hl r hr
    omega
/-- The row of a state at an event. -/
def Tb.at (T : Tb) (s e : Int) : Int × Int := (T.rows.getD s.toNat []).getD e.toNat (-1, 0)
theorem VT.len {T : Tb} (h : VT T) {s : Int} (h0 : 0 ≤ s) (h1 : s < T.st) : s.toNat < T.rows.length := by have := h.rows; omega
theorem VT.get {T : Tb} (h : VT T) {s e : Int} (h0 : 0 ≤ s) (h1 : s < T.st) (g0 : 0 ≤ e) (g1 : e < T.ev) :
    ∃ (hs : s.toNat < T.rows.length) (he : e.toNat < T.rows[s.toNat].length), T.at s e = T.rows[s.toNat][e.toNat] := by
  have hs := h.len h0 h1
  have hl := h.row _ (List.getElem_mem hs)
  have he : e.toNat < T.rows[s.toNat].length := by omega
  refine ⟨hs, he, ?_⟩
  unfold Tb.at
  rw [List.getD_eq_getElem?_getD, List.getD_eq_getElem?_getD, List.getElem?_eq_getElem hs]
  simp only [Option.getD_some]
  rw [List.getElem?_eq_getElem he]
  rfl
theorem VT.atOk {T : Tb} (h : VT T) {s e : Int} (h0 : 0 ≤ s) (h1 : s < T.st) (g0 : 0 ≤ e) (g1 : e < T.ev) :
    -1 ≤ (T.at s e).1 ∧ (T.at s e).1 < T.st ∧ 0 ≤ (T.at s e).2 ∧ (T.at s e).2 ≤ 999 ∧ ((T.at s e).1 < 0 → (T.at s e).2 = 0) := by
  obtain ⟨hs, he, e1⟩ := h.get h0 h1 g0 g1
  rw [e1]
  exact h.cell _ (List.getElem_mem hs) _ (List.getElem_mem he)
/-- The outputs of a word, and the state behind. -/
def Tb.run (T : Tb) : Int → List Int → List Int × Int
  | s, [] => ([], s)
  | s, e :: w => if (T.at s e).1 < 0 then ([], s) else ((T.at s e).2 :: (T.run (T.at s e).1 w).1, (T.run (T.at s e).1 w).2)
def Tb.worded (T : Tb) (w : List Int) : Bool := decide (w.length ≤ 200) && w.all fun e => decide (0 ≤ e) && decide (e < T.ev)
def Tb.has (T : Tb) (s : Int) : Bool := decide (0 ≤ s) && decide (s < T.st)
theorem Tb.run_len (T : Tb) : ∀ (w : List Int) (s : Int), (T.run s w).1.length ≤ w.length
  | [], s => by simp [Tb.run]
  | e :: w, s => by
    unfold Tb.run
    split
    · simp
    · have := Tb.run_len T w (T.at s e).1
      simp; omega
/-- Run. -/
def Tb.Run (T : Tb) (s : Int) (w : List Int) : List Int × Int × Int := if validT T && T.has s && T.worded w then ((T.run s w).1, (T.run s w).2, 0) else ([], 0, 1)
end Go.Proofs.Ytnggimkkjdipmaa
