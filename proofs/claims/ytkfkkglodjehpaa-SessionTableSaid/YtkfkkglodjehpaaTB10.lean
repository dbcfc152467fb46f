import Derived.Test.YtkfkkglodjehpaaTB7
namespace Go.Proofs.Ytkfkkglodjehpaa
open Go.RowKit
set_option linter.unusedVariables false
set_option linter.unusedSimpArgs false
set_option maxHeartbeats 8000000
set_option maxRecDepth 20000
theorem step_append_run {P : Program} {ops : Array Oper} {o : Oper} {a : Act} {w w' : World} {K : Act → World → Prop} {Q : Exit → Act → World → Prop} {E : Prop}
    (hg : o.guard = none) (s x : Operand) (t : TypeId) (hop : o.op = Op.call { callee := Callee.builtin Builtin.append, args := #[s, x], argTypes := #[t, t] })
    {v xv v' : Value} (hs : a.eval s = v) (hx : a.eval x = xv) (hrun : (Builtin.append_ #[t, t] o.type #[v, xv]).run P w = .ok v' w') (hK : K (a.put o.dst v') w') :
    if Region.wanted o (yielded ops a.tmps) = true then Oper.wp P o a w K Q else E := by
  have hw : Region.wanted o (yielded ops a.tmps) = true := by simp [Region.wanted, hg]
  rw [if_pos hw]
  unfold Oper.wp
  simp [execOp, hop, resolve, invoke, builtin, hs, hx, hrun, Result.andThen]
  exact hK
/-! ### Rows that are made -/
def pcells (l : List (Int × Int)) : List Value := l.flatMap fun x => [.int .i64 x.1, .int .i64 x.2]
theorem pcells_app (l r : List (Int × Int)) : pcells (l ++ r) = pcells l ++ pcells r := by simp [pcells]
theorem pcells_len (l : List (Int × Int)) : (pcells l).length = l.length * 2 := by
  induction l with
  | nil => rfl
  | cons x l ih => simp only [pcells, List.flatMap_cons, List.length_append, List.length_cons, List.length_nil] at ih ⊢; omega
theorem pcells_get : ∀ (l : List (Int × Int)) (i : Nat) (h : i < l.length), (pcells l)[i * 2]? = some (.int .i64 l[i].1) ∧ (pcells l)[i * 2 + 1]? = some (.int .i64 l[i].2)
  | x :: l, 0, _ => by simp [pcells]
  | x :: l, i + 1, h => by
    have := pcells_get l i (by simpa using h)
    have e : pcells (x :: l) = [.int .i64 x.1, .int .i64 x.2] ++ pcells l := rfl
    rw [e]
    constructor
    · rw [List.getElem?_append_right (by simp; omega)]
      simp only [List.length_cons, List.length_nil, List.getElem_cons_succ]
      rw [show (i + 1) * 2 - (0 + 1 + 1) = i * 2 by omega]
      exact this.1
    · rw [List.getElem?_append_right (by simp; omega)]
      simp only [List.length_cons, List.length_nil, List.getElem_cons_succ]
      rw [show (i + 1) * 2 + 1 - (0 + 1 + 1) = i * 2 + 1 by omega]
      exact this.2
/-- A row that lies in blocks of some kind. -/
def PInB (q : Nat → Prop) (w : World) (v : Value) (l : List (Int × Int)) : Prop := ∃ o cap, v = .slice o l.length cap ∧ ∀ i (h : i < l.length), ∃ b off, o = some ⟨b, off, none⟩ ∧ b < w.heap.size ∧ q b ∧ w.cell? ⟨b, off + i * 2, none⟩ = some (.int .i64 l[i].1) ∧ w.cell? ⟨b, off + i * 2 + 1, none⟩ = some (.int .i64 l[i].2)
theorem PInB.pin {q : Nat → Prop} {w : World} {v : Value} {l : List (Int × Int)} (h : PInB q w v l) : PIn w v l := by
  obtain ⟨o, cap, h1, h2⟩ := h
  refine ⟨o, cap, h1, fun i hi => ?_⟩
  obtain ⟨b, off, e, hb, _, hc, hd⟩ := h2 i hi
  exact ⟨b, off, e, hb, hc, hd⟩
theorem PInB.fr {q q' : Nat → Prop} {w w' : World} {v : Value} {l : List (Int × Int)} (h : PInB q w v l) {ex : List Nat} (hf : Fr ex w w') (hx : ∀ b, b < w.heap.size → q b → b ∉ ex ∧ q' b) : PInB q' w' v l := by
  obtain ⟨o, cap, h1, h2⟩ := h
  refine ⟨o, cap, h1, fun i hi => ?_⟩
  obtain ⟨b, off, e, hb, hq, hc, hd⟩ := h2 i hi
  obtain ⟨n1, n2⟩ := hx b hb hq
  exact ⟨b, off, e, Nat.lt_of_lt_of_le hb hf.size, n2, by rw [hf.cell (p := ⟨b, off + i * 2, none⟩) hb n1]; exact hc, by rw [hf.cell (p := ⟨b, off + i * 2 + 1, none⟩) hb n1]; exact hd⟩
theorem Row.pinb {q : Nat → Prop} {w : World} {v : Value} {l : List (Int × Int)} {bo : Option Nat} (h : Row 2 w v l.length (pcells l) bo) (hq : ∀ b, bo = some b → q b) : PInB q w v l := by
  rcases h with ⟨_, h2, _, o, rfl⟩ | ⟨b, off, cap, hb, rfl, h3, h4, _, _, h7⟩
  · exact ⟨o, 0, by rw [h2], fun i h => by omega⟩
  · refine ⟨_, cap, rfl, fun i h => ⟨b, off, rfl, h4, hq b hb, ?_, ?_⟩⟩
    · rw [Nat.add_comm off, Nat.add_comm (i * 2)]
      rw [h7 (i * 2) (by omega)]; exact (pcells_get l i h).1
    · rw [Nat.add_assoc, h7 (i * 2 + 1) (by omega)]; exact (pcells_get l i h).2
/-! #### rows of the reference's -/
theorem uRRows : Try.prog.underlying 42 = some (.slice RRow) := by kernel_rfl
theorem uRRs : Try.prog.underlying 26 = some (.slice 42) := by kernel_rfl
noncomputable def iRRow : TypeInfo := (Try.prog.info? RRow).getD default
theorem infoRRow : Try.prog.info? RRow = some iRRow := by kernel_rfl
noncomputable def zRRow : Value := iRRow.zero.getD default
noncomputable def iRRows : TypeInfo := (Try.prog.info? 42).getD default
theorem infoRRows : Try.prog.info? 42 = some iRRows := by kernel_rfl
noncomputable def zRRows : Value := iRRows.zero.getD default
theorem bytesRRow : iRRow.bytes = 16 := by kernel_rfl
theorem bytesRRows : iRRows.bytes = 24 := by kernel_rfl
/-- One more row of a state. -/
theorem Row.oneRR {w : World} {v : Value} {l : List (Int × Int)} {bo : Option Nat} (h : Row 2 w v l.length (pcells l) bo) (hn : (l.length + 1) * 16 ≤ 140737488355328) (x : Int × Int) :
    ∃ v' w' bo', (Builtin.append_ #[42, 42] 42 #[v, .slice (some ⟨w.heap.size, 0, none⟩) 1 1]).run Try.prog (w.alloc (.cells #[.int .i64 x.1, .int .i64 x.2] RRow)) = .ok v' w' ∧
      Row 2 w' v' (l ++ [x]).length (pcells (l ++ [x])) bo' ∧ (bo' = bo ∨ ∃ z, bo' = some z ∧ w.heap.size ≤ z) ∧ Fr bo.toList w w' := by
  have f1 : Fr [] w (w.alloc (.cells #[.int .i64 x.1, .int .i64 x.2] RRow)) := (Fr.refl [] w).alloc _
  have P1 := Pt.newA w RRow #[.int .i64 x.1, .int .i64 x.2]
  have h1 := h.fr f1 (by simp)
  have hsrc : Src Try.prog 2 42 (.slice (some ⟨w.heap.size, 0, none⟩) 1 1) 1 (pcells [x]) (w.alloc (.cells #[.int .i64 x.1, .int .i64 x.2] RRow)) := Src.ofSlice _ uRRows ⟨w.heap.size, 0, none⟩ 1 1 _ rfl (fun j u hu => by rw [Addr.add_lit, P1.cell, Nat.zero_add]; exact hu) (by intro u hu; simp [pcells] at hu; rcases hu with rfl | rfl <;> rfl)
  obtain ⟨v', w', bo', hrun, hr, hb, hf⟩ := h1.appendW (t := 42) (ty := 42) (e := RRow) (i := iRRow) (z := zRRow) uRRows infoRRow (by kernel_rfl) (by kernel_rfl) (by omega) (by kernel_rfl) hsrc (by omega) (by rw [bytesRRow]; exact hn) (by omega)
  refine ⟨v', w', bo', hrun, ?_, ?_, (f1.mono (by simp)).trans hf⟩
  · rw [pcells_app, List.length_append]; exact hr
  · rcases hb with hb | hb
    · exact .inl hb
    · exact .inr ⟨_, hb, f1.size⟩
/-- One more row of rows. -/
theorem Row.oneRRs {w : World} {v : Value} {l : List Value} {bo : Option Nat} (h : Row 1 w v l.length l bo) (hn : (l.length + 1) * 24 ≤ 140737488355328) (x : Value) (hx : x.oneCell' = true) :
    ∃ v' w' bo', (Builtin.append_ #[26, 26] 26 #[v, .slice (some ⟨w.heap.size, 0, none⟩) 1 1]).run Try.prog (w.alloc (.cells #[x] 42)) = .ok v' w' ∧
      Row 1 w' v' (l ++ [x]).length (l ++ [x]) bo' ∧ (bo' = bo ∨ ∃ z, bo' = some z ∧ w.heap.size ≤ z) ∧ Fr bo.toList w w' := by
  have f1 : Fr [] w (w.alloc (.cells #[x] 42)) := (Fr.refl [] w).alloc _
  have P1 := Pt.newA w 42 #[x]
  have h1 := h.fr f1 (by simp)
  have hsrc : Src Try.prog 1 26 (.slice (some ⟨w.heap.size, 0, none⟩) 1 1) 1 [x] (w.alloc (.cells #[x] 42)) := Src.ofSlice _ uRRs ⟨w.heap.size, 0, none⟩ 1 1 _ rfl (fun j u hu => by rw [Addr.add_lit, P1.cell, Nat.zero_add]; exact hu) (by intro u hu; simp at hu; rw [hu]; exact hx)
  obtain ⟨v', w', bo', hrun, hr, hb, hf⟩ := h1.appendW (t := 26) (ty := 26) (e := 42) (i := iRRows) (z := zRRows) uRRs infoRRows (by kernel_rfl) (by kernel_rfl) (by omega) (by kernel_rfl) hsrc (by omega) (by rw [bytesRRows]; exact hn) (by omega)
  refine ⟨v', w', bo', hrun, ?_, ?_, (f1.mono (by simp)).trans hf⟩
  · rw [List.length_append]; exact hr
  · rcases hb with hb | hb
    · exact .inl hb
    · exact .inr ⟨_, hb, f1.size⟩
end Go.Proofs.Ytkfkkglodjehpaa
