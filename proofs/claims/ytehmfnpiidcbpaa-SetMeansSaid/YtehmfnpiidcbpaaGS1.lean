import Derived.Test.YtehmfnpiidcbpaaGP1
import Derived.Test.YtehmfnpiidcbpaaRow
import Derived.Test.YtehmfnpiidcbpaaProg
import Derived.Deep.RegionHeld3
import Derived.WalkSpells
import Derived.Laws.Cover3
import Derived.WalkLawsBesides
import Derived.Deep.RegionLaw
import Derived.Deep.QuietTactic
import Derived.BigQuiet
import Derived.Outline
import Derived.Deep.LoopGhost
import Derived.StillTailTactics
import Derived.BigRegion
import Derived.Deep.Cut
import Derived.Laws.MakeOwn
import Derived.Laws.BytesString
import Derived.Laws.Cells
namespace Go.Proofs.Ytehmfnpiidcbpaa
open Go.RowKit
set_option linter.unusedVariables false
set_option linter.unusedSimpArgs false
set_option maxHeartbeats 16000000
set_option maxRecDepth 100000
def PIn (w : World) (v : Value) (l : List (Int × Int)) : Prop := ∃ o cap, v = .slice o l.length cap ∧ ∀ i (h : i < l.length), ∃ b off, o = some ⟨b, off, none⟩ ∧ b < w.heap.size ∧ w.cell? ⟨b, off + i * 2, none⟩ = some (.int .i64 l[i].1) ∧ w.cell? ⟨b, off + i * 2 + 1, none⟩ = some (.int .i64 l[i].2)
theorem PIn.fr {w w' : World} {v : Value} {l : List (Int × Int)} (h : PIn w v l) (hf : Fr [] w w') : PIn w' v l := by
  obtain ⟨o, cap, h1, h2⟩ := h
  refine ⟨o, cap, h1, fun i hi => ?_⟩
  obtain ⟨b, off, e, hb, hc, hd⟩ := h2 i hi
  exact ⟨b, off, e, Nat.lt_of_lt_of_le hb hf.size, by rw [hf.cell (p := ⟨b, off + i * 2, none⟩) hb (by simp)]; exact hc, by rw [hf.cell (p := ⟨b, off + i * 2 + 1, none⟩) hb (by simp)]; exact hd⟩
theorem ret_b {a b : Bool} (h : a = b) : Ending.returned (.bool a) = .returned (.bool b) := by rw [h]
theorem wpList_append_run {P : Program} (w : World) {ops : Array Oper} {rest : List Oper} {o : Oper} {a : Act} {Q : Exit → Act → World → Prop} (hgd : o.guard = none) (s x : Operand) (t : TypeId)
    (ho : o.op = .call { callee := .builtin .append, args := #[s, x], argTypes := #[t, t] }) {v xv v' : Value} {w' : World} (hv : a.eval s = v) (hx : a.eval x = xv)
    (hrun : (Builtin.append_ #[t, t] o.type #[v, xv]).run P w = .ok v' w') (hK : wpList P ops Q rest (a.put o.dst v') w') : wpList P ops Q (o :: rest) a w := by
  refine wpList_plain hgd fun K hK' => ?_
  unfold Oper.wp
  simp [execOp, ho, resolve, invoke, builtin, hv, hx, hrun, Result.andThen]
  exact hK' _ _ hK
theorem wpList_append_run2 {P : Program} (w : World) {ops : Array Oper} {rest : List Oper} {o : Oper} {a : Act} {Q : Exit → Act → World → Prop} (hgd : o.guard = none) (s x : Operand) (t tx : TypeId)
    (ho : o.op = .call { callee := .builtin .append, args := #[s, x], argTypes := #[t, tx] }) {v xv v' : Value} {w' : World} (hv : a.eval s = v) (hx : a.eval x = xv)
    (hrun : (Builtin.append_ #[t, tx] o.type #[v, xv]).run P w = .ok v' w') (hK : wpList P ops Q rest (a.put o.dst v') w') : wpList P ops Q (o :: rest) a w := by
  refine wpList_plain hgd fun K hK' => ?_
  unfold Oper.wp
  simp [execOp, ho, resolve, invoke, builtin, hv, hx, hrun, Result.andThen]
  exact hK' _ _ hK
theorem step_append_run {P : Program} {ops : Array Oper} {o : Oper} {a : Act} {w w' : World} {K : Act → World → Prop} {Q : Exit → Act → World → Prop} {E : Prop}
    (hg : o.guard = none) (s x : Operand) (t : TypeId) (hop : o.op = Op.call { callee := Callee.builtin Builtin.append, args := #[s, x], argTypes := #[t, t] })
    {v xv v' : Value} (hs : a.eval s = v) (hx : a.eval x = xv) (hrun : (Builtin.append_ #[t, t] o.type #[v, xv]).run P w = .ok v' w') (hK : K (a.put o.dst v') w') :
    if Region.wanted o (yielded ops a.tmps) = true then Oper.wp P o a w K Q else E := by
  have hw : Region.wanted o (yielded ops a.tmps) = true := by simp [Region.wanted, hg]
  rw [if_pos hw]
  unfold Oper.wp
  simp [execOp, hop, resolve, invoke, builtin, hs, hx, hrun, Result.andThen]
  exact hK
def pcells (l : List (Int × Int)) : List Value := l.flatMap fun x => [.int .i64 x.1, .int .i64 x.2]
theorem pcells_app (l r : List (Int × Int)) : pcells (l ++ r) = pcells l ++ pcells r := by simp [pcells]
theorem pcells_len (l : List (Int × Int)) : (pcells l).length = l.length * 2 := by
  induction l with
  | nil => rfl
  | cons x l ih => simp only [pcells, List.flatMap_cons, List.length_append, List.length_cons, List.length_nil] at ih ⊢; omega
theorem pcells_get : ∀ (l : List (Int × Int)) (i : Nat) (h : i < l.length), (pcells l)[i * 2]? = some (.int .i64 l[i].1) ∧ (pcells l)[i * 2 + 1]? = some (.int .i64 l[i].2)
  | x :: l, 0, _ => by simp [pcells]
  | x :: l, i + 1, h => by
    have := pcells_get l i (by simpa using h)
    have e : pcells (x :: l) = [.int .i64 x.1, .int .i64 x.2] ++ pcells l := rfl
    rw [e]
    constructor
    · rw [List.getElem?_append_right (by simp; omega)]
      simp only [List.length_cons, List.length_nil, List.getElem_cons_succ]
      rw [show (i + 1) * 2 - (0 + 1 + 1) = i * 2 by omega]
      exact this.1
    · rw [List.getElem?_append_right (by simp; omega)]
      simp only [List.length_cons, List.length_nil, List.getElem_cons_succ]
      rw [show (i + 1) * 2 + 1 - (0 + 1 + 1) = i * 2 + 1 by omega]
      exact this.2
/-- A row that lies in blocks of some kind. -/
def PInB (q : Nat → Prop) (w : World) (v : Value) (l : List (Int × Int)) : Prop := ∃ o cap, v = .slice o l.length cap ∧ ∀ i (h : i < l.length), ∃ b off, o = some ⟨b, off, none⟩ ∧ b < w.heap.size ∧ q b ∧ w.cell? ⟨b, off + i * 2, none⟩ = some (.int .i64 l[i].1) ∧ w.cell? ⟨b, off + i * 2 + 1, none⟩ = some (.int .i64 l[i].2)
theorem PInB.pin {q : Nat → Prop} {w : World} {v : Value} {l : List (Int × Int)} (h : PInB q w v l) : PIn w v l := by
  obtain ⟨o, cap, h1, h2⟩ := h
  refine ⟨o, cap, h1, fun i hi => ?_⟩
  obtain ⟨b, off, e, hb, _, hc, hd⟩ := h2 i hi
  exact ⟨b, off, e, hb, hc, hd⟩
theorem PInB.fr {q q' : Nat → Prop} {w w' : World} {v : Value} {l : List (Int × Int)} (h : PInB q w v l) {ex : List Nat} (hf : Fr ex w w') (hx : ∀ b, b < w.heap.size → q b → b ∉ ex ∧ q' b) : PInB q' w' v l := by
  obtain ⟨o, cap, h1, h2⟩ := h
  refine ⟨o, cap, h1, fun i hi => ?_⟩
  obtain ⟨b, off, e, hb, hq, hc, hd⟩ := h2 i hi
  obtain ⟨n1, n2⟩ := hx b hb hq
  exact ⟨b, off, e, Nat.lt_of_lt_of_le hb hf.size, n2, by rw [hf.cell (p := ⟨b, off + i * 2, none⟩) hb n1]; exact hc, by rw [hf.cell (p := ⟨b, off + i * 2 + 1, none⟩) hb n1]; exact hd⟩
theorem Row.pinb {q : Nat → Prop} {w : World} {v : Value} {l : List (Int × Int)} {bo : Option Nat} (h : Row 2 w v l.length (pcells l) bo) (hq : ∀ b, bo = some b → q b) : PInB q w v l := by
  rcases h with ⟨_, h2, _, o, rfl⟩ | ⟨b, off, cap, hb, rfl, h3, h4, _, _, h7⟩
  · exact ⟨o, 0, by rw [h2], fun i h => by omega⟩
  · refine ⟨_, cap, rfl, fun i h => ⟨b, off, rfl, h4, hq b hb, ?_, ?_⟩⟩
    · rw [Nat.add_comm off, Nat.add_comm (i * 2)]
      rw [h7 (i * 2) (by omega)]; exact (pcells_get l i h).1
    · rw [Nat.add_assoc, h7 (i * 2 + 1) (by omega)]; exact (pcells_get l i h).2
theorem uPairsM : Try.prog.underlying 22 = some (.slice 51) := by kernel_rfl
noncomputable def iArrM : TypeInfo := (Try.prog.info? 51).getD default
theorem infoArrM : Try.prog.info? 51 = some iArrM := by kernel_rfl
noncomputable def zArrM : Value := iArrM.zero.getD (.int .i64 0)
/-- append of one pair to a row of pairs. -/
theorem Row.addP {w : World} {v : Value} {l : List (Int × Int)} {bo : Option Nat} (h : Row 2 w v l.length (pcells l) bo) (hn : l.length < 100000) (x : Int × Int) :
    ∃ v' w9 bo', (Builtin.append_ #[22, 22] 22 #[v, .slice (some ⟨w.heap.size, 0, none⟩) 1 1]).run Try.prog (w.alloc (.cells #[.int .i64 x.1, .int .i64 x.2] 51)) = .ok v' w9 ∧
      Row 2 w9 v' (l ++ [x]).length (pcells (l ++ [x])) bo' ∧ (bo' = bo ∨ ∃ z, bo' = some z ∧ w.heap.size ≤ z) ∧ Fr bo.toList w w9 := by
  have fa : Fr [] w (w.alloc (.cells #[.int .i64 x.1, .int .i64 x.2] 51)) := (Fr.refl [] w).alloc _
  have P1 := Pt.newA w 51 #[.int .i64 x.1, .int .i64 x.2]
  have hsrc : Src Try.prog 2 22 (.slice (some ⟨w.heap.size, 0, none⟩) 1 1) 1 (pcells [x]) (w.alloc (.cells #[.int .i64 x.1, .int .i64 x.2] 51)) :=
    Src.ofSlice _ uPairsM ⟨w.heap.size, 0, none⟩ 1 1 _ rfl (fun j u hu => by rw [Addr.add_lit, P1.cell, Nat.zero_add]; simpa [pcells] using hu) (by intro u hu; simp [pcells] at hu; rcases hu with rfl | rfl <;> rfl)
  obtain ⟨v', w9, bo', hrun, hr, hb, hf⟩ := (h.fr fa (by simp)).append (t := 22) (ty := 22) (e := 51) (i := iArrM) (z := zArrM) uPairsM infoArrM (by kernel_rfl) (by kernel_rfl) (by omega) (by kernel_rfl) (of_decide_eq_true (by kernel_rfl)) (by omega) hsrc (by omega) (by omega)
  refine ⟨v', w9, bo', hrun, ?_, ?_, (fa.mono (by simp)).trans hf⟩
  · rw [pcells_app, List.length_append]; exact hr
  · rcases hb with e | e
    · exact .inl e
    · exact .inr ⟨_, e, by have := fa.size; omega⟩
theorem Row.pinP {w : World} {v : Value} {l : List (Int × Int)} {bo : Option Nat} (h : Row 2 w v l.length (pcells l) bo) : PIn w v l := (h.pinb (q := fun _ => True) (fun _ _ => trivial)).pin
end Go.Proofs.Ytehmfnpiidcbpaa
