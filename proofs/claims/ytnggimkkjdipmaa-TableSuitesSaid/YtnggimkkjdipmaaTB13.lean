import Derived.Test.YtnggimkkjdipmaaTB9
import Derived.Deep.Cut
import Derived.Laws.MakeOwn
import Derived.Laws.BytesString
import Derived.Laws.Cells
namespace Go.Proofs.Ytnggimkkjdipmaa
open Go.RowKit
set_option linter.unusedVariables false
set_option linter.unusedSimpArgs false
set_option maxHeartbeats 8000000
set_option maxRecDepth 20000
theorem step_append_run {P : Program} {ops : Array Oper} {o : Oper} {a : Act} {w w' : World} {K : Act → World → Prop} {Q : Exit → Act → World → Prop} {E : Prop}
    (hg : o.guard = none) (s x : Operand) (t : TypeId) (hop : o.op = Op.call { callee := Callee.builtin Builtin.append, args := #[s, x], argTypes := #[t, t] })
    {v xv v' : Value} (hs : a.eval s = v) (hx : a.eval x = xv) (hrun : (Builtin.append_ #[t, t] o.type #[v, xv]).run P w = .ok v' w') (hK : K (a.put o.dst v') w') :
    if Region.wanted o (yielded ops a.tmps) = true then Oper.wp P o a w K Q else E := by
  have hw : Region.wanted o (yielded ops a.tmps) = true := by simp [Region.wanted, hg]
  rw [if_pos hw]
  unfold Oper.wp
  simp [execOp, hop, resolve, invoke, builtin, hs, hx, hrun, Result.andThen]
  exact hK
/-! ### Rows that are made -/
def pcells (l : List (Int × Int)) : List Value := l.flatMap fun x => [.int .i64 x.1, .int .i64 x.2]
theorem pcells_app (l r : List (Int × Int)) : pcells (l ++ r) = pcells l ++ pcells r := by simp [pcells]
theorem pcells_len (l : List (Int × Int)) : (pcells l).length = l.length * 2 := by
  induction l with
  | nil => rfl
  | cons x l ih => simp only [pcells, List.flatMap_cons, List.length_append, List.length_cons, List.length_nil] at ih ⊢; omega
theorem pcells_get : ∀ (l : List (Int × Int)) (i : Nat) (h : i < l.length), (pcells l)[i * 2]? = some (.int .i64 l[i].1) ∧ (pcells l)[i * 2 + 1]? = some (.int .i64 l[i].2)
  | x :: l, 0, _ => by simp [pcells]
  | x :: l, i + 1, h => by
    have := pcells_get l i (by simpa using h)
    have e : pcells (x :: l) = [.int .i64 x.1, .int .i64 x.2] ++ pcells l := rfl
    rw [e]
    constructor
    · rw [List.getElem?_append_right (by simp; omega)]
      simp only [List.length_cons, List.length_nil, List.getElem_cons_succ]
      rw [show (i + 1) * 2 - (0 + 1 + 1) = i * 2 by omega]
      exact this.1
    · rw [List.getElem?_append_right (by simp; omega)]
      simp only [List.length_cons, List.length_nil, List.getElem_cons_succ]
      rw [show (i + 1) * 2 + 1 - (0 + 1 + 1) = i * 2 + 1 by omega]
      exact this.2
/-- A row that lies in blocks of some kind. -/
def PInB (q : Nat → Prop) (w : World) (v : Value) (l : List (Int × Int)) : Prop := ∃ o cap, v = .slice o l.length cap ∧ ∀ i (h : i < l.length), ∃ b off, o = some ⟨b, off, none⟩ ∧ b < w.heap.size ∧ q b ∧ w.cell? ⟨b, off + i * 2, none⟩ = some (.int .i64 l[i].1) ∧ w.cell? ⟨b, off + i * 2 + 1, none⟩ = some (.int .i64 l[i].2)
theorem PInB.pin {q : Nat → Prop} {w : World} {v : Value} {l : List (Int × Int)} (h : PInB q w v l) : PIn w v l := by
  obtain ⟨o, cap, h1, h2⟩ := h
  refine ⟨o, cap, h1, fun i hi => ?_⟩
  obtain ⟨b, off, e, hb, _, hc, hd⟩ := h2 i hi
  exact ⟨b, off, e, hb, hc, hd⟩
theorem PInB.fr {q q' : Nat → Prop} {w w' : World} {v : Value} {l : List (Int × Int)} (h : PInB q w v l) {ex : List Nat} (hf : Fr ex w w') (hx : ∀ b, b < w.heap.size → q b → b ∉ ex ∧ q' b) : PInB q' w' v l := by
  obtain ⟨o, cap, h1, h2⟩ := h
  refine ⟨o, cap, h1, fun i hi => ?_⟩
  obtain ⟨b, off, e, hb, hq, hc, hd⟩ := h2 i hi
  obtain ⟨n1, n2⟩ := hx b hb hq
  exact ⟨b, off, e, Nat.lt_of_lt_of_le hb hf.size, n2, by rw [hf.cell (p := ⟨b, off + i * 2, none⟩) hb n1]; exact hc, by rw [hf.cell (p := ⟨b, off + i * 2 + 1, none⟩) hb n1]; exact hd⟩
theorem Row.pinb {q : Nat → Prop} {w : World} {v : Value} {l : List (Int × Int)} {bo : Option Nat} (h : Row 2 w v l.length (pcells l) bo) (hq : ∀ b, bo = some b → q b) : PInB q w v l := by
  rcases h with ⟨_, h2, _, o, rfl⟩ | ⟨b, off, cap, hb, rfl, h3, h4, _, _, h7⟩
  · exact ⟨o, 0, by rw [h2], fun i h => by omega⟩
  · refine ⟨_, cap, rfl, fun i h => ⟨b, off, rfl, h4, hq b hb, ?_, ?_⟩⟩
    · rw [Nat.add_comm off, Nat.add_comm (i * 2)]
      rw [h7 (i * 2) (by omega)]; exact (pcells_get l i h).1
    · rw [Nat.add_assoc, h7 (i * 2 + 1) (by omega)]; exact (pcells_get l i h).2
/-! #### rows of the reference's -/
theorem uRRows : Try.prog.underlying 89 = some (.slice RRow) := by kernel_rfl
theorem uRRs : Try.prog.underlying 30 = some (.slice 89) := by kernel_rfl
noncomputable def iRRow : TypeInfo := (Try.prog.info? RRow).getD default
theorem infoRRow : Try.prog.info? RRow = some iRRow := by kernel_rfl
noncomputable def zRRow : Value := iRRow.zero.getD default
noncomputable def iRRows : TypeInfo := (Try.prog.info? 89).getD default
theorem infoRRows : Try.prog.info? 89 = some iRRows := by kernel_rfl
noncomputable def zRRows : Value := iRRows.zero.getD default
theorem bytesRRow : iRRow.bytes = 16 := by kernel_rfl
theorem bytesRRows : iRRows.bytes = 24 := by kernel_rfl
/-- One more row of a state. -/
theorem Row.oneRR {w : World} {v : Value} {l : List (Int × Int)} {bo : Option Nat} (h : Row 2 w v l.length (pcells l) bo) (hn : (l.length + 1) * 16 ≤ 140737488355328) (x : Int × Int) :
    ∃ v' w' bo', (Builtin.append_ #[89, 89] 89 #[v, .slice (some ⟨w.heap.size, 0, none⟩) 1 1]).run Try.prog (w.alloc (.cells #[.int .i64 x.1, .int .i64 x.2] RRow)) = .ok v' w' ∧
      Row 2 w' v' (l ++ [x]).length (pcells (l ++ [x])) bo' ∧ (bo' = bo ∨ ∃ z, bo' = some z ∧ w.heap.size ≤ z) ∧ Fr bo.toList w w' := by
  have f1 : Fr [] w (w.alloc (.cells #[.int .i64 x.1, .int .i64 x.2] RRow)) := (Fr.refl [] w).alloc _
  have P1 := Pt.newA w RRow #[.int .i64 x.1, .int .i64 x.2]
  have h1 := h.fr f1 (by simp)
  have hsrc : Src Try.prog 2 89 (.slice (some ⟨w.heap.size, 0, none⟩) 1 1) 1 (pcells [x]) (w.alloc (.cells #[.int .i64 x.1, .int .i64 x.2] RRow)) := Src.ofSlice _ uRRows ⟨w.heap.size, 0, none⟩ 1 1 _ rfl (fun j u hu => by rw [Addr.add_lit, P1.cell, Nat.zero_add]; exact hu) (by intro u hu; simp [pcells] at hu; rcases hu with rfl | rfl <;> rfl)
  obtain ⟨v', w', bo', hrun, hr, hb, hf⟩ := h1.appendW (t := 89) (ty := 89) (e := RRow) (i := iRRow) (z := zRRow) uRRows infoRRow (by kernel_rfl) (by kernel_rfl) (by omega) (by kernel_rfl) hsrc (by omega) (by rw [bytesRRow]; exact hn) (by omega)
  refine ⟨v', w', bo', hrun, ?_, ?_, (f1.mono (by simp)).trans hf⟩
  · rw [pcells_app, List.length_append]; exact hr
  · rcases hb with hb | hb
    · exact .inl hb
    · exact .inr ⟨_, hb, f1.size⟩
/-- One more row of rows. -/
theorem Row.oneRRs {w : World} {v : Value} {l : List Value} {bo : Option Nat} (h : Row 1 w v l.length l bo) (hn : (l.length + 1) * 24 ≤ 140737488355328) (x : Value) (hx : x.oneCell' = true) :
    ∃ v' w' bo', (Builtin.append_ #[30, 30] 30 #[v, .slice (some ⟨w.heap.size, 0, none⟩) 1 1]).run Try.prog (w.alloc (.cells #[x] 89)) = .ok v' w' ∧
      Row 1 w' v' (l ++ [x]).length (l ++ [x]) bo' ∧ (bo' = bo ∨ ∃ z, bo' = some z ∧ w.heap.size ≤ z) ∧ Fr bo.toList w w' := by
  have f1 : Fr [] w (w.alloc (.cells #[x] 89)) := (Fr.refl [] w).alloc _
  have P1 := Pt.newA w 89 #[x]
  have h1 := h.fr f1 (by simp)
  have hsrc : Src Try.prog 1 30 (.slice (some ⟨w.heap.size, 0, none⟩) 1 1) 1 [x] (w.alloc (.cells #[x] 89)) := Src.ofSlice _ uRRs ⟨w.heap.size, 0, none⟩ 1 1 _ rfl (fun j u hu => by rw [Addr.add_lit, P1.cell, Nat.zero_add]; exact hu) (by intro u hu; simp at hu; rw [hu]; exact hx)
  obtain ⟨v', w', bo', hrun, hr, hb, hf⟩ := h1.appendW (t := 30) (ty := 30) (e := 89) (i := iRRows) (z := zRRows) uRRs infoRRows (by kernel_rfl) (by kernel_rfl) (by omega) (by kernel_rfl) hsrc (by omega) (by rw [bytesRRows]; exact hn) (by omega)
  refine ⟨v', w', bo', hrun, ?_, ?_, (f1.mono (by simp)).trans hf⟩
  · rw [List.length_append]; exact hr
  · rcases hb with hb | hb
    · exact .inl hb
    · exact .inr ⟨_, hb, f1.size⟩
end Go.Proofs.Ytnggimkkjdipmaa
namespace Go.Proofs.Ytnggimkkjdipmaa
open Go.RowKit
set_option linter.unusedVariables false
set_option linter.unusedSimpArgs false
set_option maxHeartbeats 16000000
set_option maxRecDepth 20000
/-- To's work, half done. -/
structure ToI (w : World) (b1 b2 b3 : Nat) (st ev sr : Int) (v : Value) (rows : List (List (Int × Int))) (wr : World) (i : Nat) (r' : Value) (us : List Value) (bo : Option Nat) : Prop where
  p1 : Pt wr b1 TTab [.int .i64 st, .int .i64 ev, .int .i64 sr, v]
  p2 : Pt wr b2 RTab [.int .i64 0, .int .i64 0, .int .i64 0, .slice none 0 0]
  p3 : Pt wr b3 RTab [.int .i64 st, .int .i64 ev, .int .i64 sr, r']
  row : Row 1 wr r' us.length us bo
  len : us.length = i
  out : ∀ z, bo = some z → b3 < z
  pin : ∀ k (h : k < us.length) (h2 : k < rows.length), PInB (fun b => b3 < b ∧ b ∉ bo.toList) wr us[k] rows[k]
  fr : Fr [] w wr
theorem ToI.next {w : World} {b1 b2 b3 : Nat} {st ev sr : Int} {v : Value} {rows : List (List (Int × Int))} {wo wr w6 : World} {i : Nat} {r' v5 v6 : Value} {us : List Value} {bo bo2 bo6 : Option Nat}
    (h : ToI w b1 b2 b3 st ev sr v rows wo i r' us bo) (hi : i < rows.length) (h12 : b1 < b2) (h23 : b2 < b3) (hw : w.heap.size ≤ b1) (hF : Fr [] wo wr)
    (hrw : Row 2 wr v5 (rows[i]).length (pcells rows[i]) bo2) (hbo2 : ∀ z, bo2 = some z → wo.heap.size ≤ z)
    (hr6 : Row 1 w6 v6 (us ++ [v5]).length (us ++ [v5]) bo6) (hb6 : bo6 = bo ∨ ∃ z, bo6 = some z ∧ wr.heap.size ≤ z) (f6 : Fr bo.toList wr w6) :
    ToI w b1 b2 b3 st ev sr v rows (w6.setCell ⟨b3, 3, none⟩ v6) (i + 1) v6 (us ++ [v5]) bo6 := by
  have l3 := h.p3.lt
  have hsz := hF.size
  have fs : Fr [b3] w6 (w6.setCell ⟨b3, 3, none⟩ v6) := (Fr.refl _ _).setCell (by simp) _
  have FA : Fr (b3 :: bo.toList) wo (w6.setCell ⟨b3, 3, none⟩ v6) := ((hF.mono (by simp)).trans (f6.mono (fun x hx => by simp [hx]))).trans (fs.mono (by simp))
  have hbm : ∀ z ∈ bo.toList, b3 < z ∧ z < wo.heap.size := fun z hz => by
    have hz' : bo = some z := by simpa using hz
    have := h.row
    rw [hz'] at this
    exact ⟨h.out z hz', this.lt⟩
  have hb6' : ∀ z, bo6 = some z → b3 < z := fun z hz => by
    rcases hb6 with e | ⟨z', e, h2⟩
    · exact h.out z (by rw [← e]; exact hz)
    · rw [hz] at e; cases e; omega
  have hnew : ∀ b, b < wr.heap.size → b ∉ bo.toList → b ∉ bo6.toList := fun b hb hn hm => by
    have hm' : bo6 = some b := by simpa using hm
    rcases hb6 with e | ⟨z', e, h2⟩
    · exact hn (by rw [← e]; exact hm)
    · rw [hm'] at e; cases e; omega
  refine ⟨FA.pt h.p1 (fun hm => ?_), FA.pt h.p2 (fun hm => ?_), (f6.pt (hF.pt h.p3 (by simp)) (fun hm => ?_)).set' rfl, hr6.fr fs (fun z hz hm => ?_), by rw [List.length_append, h.len]; rfl, hb6', fun k hk hk2 => ?_, ?_⟩
  · rcases List.mem_cons.mp hm with e | e
    · omega
    · have := (hbm _ e).1; omega
  · rcases List.mem_cons.mp hm with e | e
    · omega
    · have := (hbm _ e).1; omega
  · have := (hbm _ hm).1; omega
  · have := hb6' z hz
    simp at hm; omega
  · by_cases e : k < us.length
    · rw [List.getElem_append_left e]
      refine (h.pin k e hk2).fr FA (fun b hb hq => ⟨fun hm => ?_, hq.1, hnew b (by omega) hq.2⟩)
      rcases List.mem_cons.mp hm with e2 | e2
      · omega
      · exact hq.2 e2
    · have hki : k = us.length := by simp at hk; omega
      have hki2 : k = i := by rw [hki, h.len]
      subst hki2
      rw [List.getElem_append_right (by omega)]
      have : (us ++ [v5])[k]'hk = v5 := by
        rw [List.getElem_append_right (by omega)]; simp [hki]
      have e5 : [v5][k - us.length]'(by simp at hk; simp; omega) = v5 := by simp
      rw [e5]
      have hp : PInB (fun b => wo.heap.size ≤ b) wr v5 rows[k] := hrw.pinb hbo2
      have FB : Fr (b3 :: bo.toList) wr (w6.setCell ⟨b3, 3, none⟩ v6) := (f6.mono (fun x hx => by simp [hx])).trans (fs.mono (by simp))
      refine hp.fr FB (fun b hb hq => ⟨fun hm => ?_, by omega, hnew b hb (fun hm => ?_)⟩)
      · rcases List.mem_cons.mp hm with e2 | e2
        · omega
        · have := (hbm _ e2).2; omega
      · have := (hbm _ hm).2; omega
  · refine h.fr.step FA (fun x hx => .inr ?_)
    rcases List.mem_cons.mp hx with e | e
    · omega
    · have := (hbm _ e).1; omega
theorem ToI.rin {w : World} {b1 b2 b3 : Nat} {st ev sr : Int} {v : Value} {rows : List (List (Int × Int))} {wr w' : World} {r' : Value} {us : List Value} {bo : Option Nat}
    (h : ToI w b1 b2 b3 st ev sr v rows wr rows.length r' us bo) (h23 : b2 < b3) (hf : Fr [b2] wr w') : RIn w' r' rows := by
  have hr := h.row.fr hf (fun z hz hm => by have := h.out z hz; simp at hm; omega)
  have hlen := h.len
  have hp : ∀ k (hk : k < us.length) (hk2 : k < rows.length), PIn w' us[k] rows[k] := fun k hk hk2 => ((h.pin k hk hk2).fr (q' := fun _ => True) hf (fun b _ hq => ⟨fun hm => by have := hq.1; simp at hm; omega, trivial⟩)).pin
  rcases hr with ⟨_, h2, _, o, rfl⟩ | ⟨b, off, cap, hb, rfl, h3, h4, _, _, h7⟩
  · exact ⟨o, 0, by rw [← hlen, h2], fun i hi => by omega⟩
  · refine ⟨_, cap, by rw [hlen], fun i hi => ⟨b, off, us[i]'(by omega), rfl, h4, ?_, hp i (by omega) hi⟩⟩
    rw [h7 i (by omega), List.getElem?_eq_getElem (by omega)]
def RInB (q : Nat → Prop) (w : World) (v : Value) (l : List (List (Int × Int))) : Prop := ∃ o cap, v = .slice o l.length cap ∧ ∀ i (h : i < l.length), ∃ b off u, o = some ⟨b, off, none⟩ ∧ b < w.heap.size ∧ q b ∧ w.cell? ⟨b, off + i, none⟩ = some u ∧ PInB q w u l[i]
theorem RInB.rin {q : Nat → Prop} {w : World} {v : Value} {l : List (List (Int × Int))} (h : RInB q w v l) : RIn w v l := by
  obtain ⟨o, cap, h1, h2⟩ := h
  refine ⟨o, cap, h1, fun i hi => ?_⟩
  obtain ⟨b, off, u, e, hb, hq, hc, hd⟩ := h2 i hi
  exact ⟨b, off, u, e, hb, hc, hd.pin⟩
theorem RInB.fr {q q' : Nat → Prop} {w w' : World} {v : Value} {l : List (List (Int × Int))} (h : RInB q w v l) {ex : List Nat} (hf : Fr ex w w') (hx : ∀ b, b < w.heap.size → q b → b ∉ ex ∧ q' b) : RInB q' w' v l := by
  obtain ⟨o, cap, h1, h2⟩ := h
  refine ⟨o, cap, h1, fun i hi => ?_⟩
  obtain ⟨b, off, u, e, hb, hq, hc, hd⟩ := h2 i hi
  exact ⟨b, off, u, e, Nat.lt_of_lt_of_le hb hf.size, (hx b hb hq).2, by rw [hf.cell (p := ⟨b, off + i, none⟩) hb (hx b hb hq).1]; exact hc, hd.fr hf hx⟩
theorem ToI.rinb {w : World} {b1 b2 b3 : Nat} {st ev sr : Int} {v : Value} {rows : List (List (Int × Int))} {wr w' : World} {r' : Value} {us : List Value} {bo : Option Nat}
    (h : ToI w b1 b2 b3 st ev sr v rows wr rows.length r' us bo) (h23 : b2 < b3) (hf : Fr [b2] wr w') : RInB (fun b => b3 < b) w' r' rows := by
  have hr := h.row.fr hf (fun z hz hm => by have := h.out z hz; simp at hm; omega)
  have hlen := h.len
  have hp : ∀ k (hk : k < us.length) (hk2 : k < rows.length), PInB (fun b => b3 < b) w' us[k] rows[k] := fun k hk hk2 => ((h.pin k hk hk2).fr hf (fun b _ hq => ⟨fun hm => by have := hq.1; simp at hm; omega, hq.1⟩))
  rcases hr with ⟨_, h2, _, o, rfl⟩ | ⟨b, off, cap, hb, rfl, h3, h4, _, _, h7⟩
  · exact ⟨o, 0, by rw [← hlen, h2], fun i hi => by omega⟩
  · refine ⟨_, cap, by rw [hlen], fun i hi => ⟨b, off, us[i]'(by omega), rfl, h4, h.out b hb, ?_, hp i (by omega) hi⟩⟩
    rw [h7 i (by omega), List.getElem?_eq_getElem (by omega)]
/-- What a table in memory weighs, at most. -/
def Fits (T : Tb) : Prop := T.rows.length * 24 ≤ 140737488351232 ∧ ∀ l ∈ T.rows, l.length * 16 ≤ 140737488351232
theorem to_fresh (T : Tb) (v : Value) (w : World) (hT : TIn w v T) (hz : Fits T) :
    Calls Try.prog 18 #[v] w fun e w' => ∃ r', e = .returned (.agg #[.int .i64 T.st, .int .i64 T.ev, .int .i64 T.sr, r']) ∧ RInB (fun b => w.heap.size ≤ b) w' r' T.rows ∧ Fr [] w w' := by
  obtain ⟨r, rfl, hR⟩ := hT
  obtain ⟨st, ev, sr, rows⟩ := T
  obtain ⟨hz1, hz2⟩ := hz
  dsimp only [Tb.val] at hR hz1 hz2 ⊢
  obtain ⟨o, cap, rfl, hl⟩ := hR
  obtain ⟨w1, hw1⟩ : ∃ x, w.alloc (.cells #[.int .i64 st, .int .i64 ev, .int .i64 sr, .slice o rows.length cap] TTab) = x := ⟨_, rfl⟩
  have P1 := Pt.newA w TTab #[.int .i64 st, .int .i64 ev, .int .i64 sr, .slice o rows.length cap]
  rw [hw1] at P1
  have F1 : Fr [] w w1 := by rw [← hw1]; exact (Fr.refl [] w).alloc _
  obtain ⟨b1, hb1⟩ : ∃ x, w.heap.size = x := ⟨_, rfl⟩
  rw [hb1] at P1
  obtain ⟨w2, hw2⟩ : ∃ x, w1.alloc (.cells #[.int .i64 0, .int .i64 0, .int .i64 0, .slice none 0 0] RTab) = x := ⟨_, rfl⟩
  have P2 := Pt.newA w1 RTab #[.int .i64 0, .int .i64 0, .int .i64 0, .slice none 0 0]
  rw [hw2] at P2
  have F2 : Fr [] w1 w2 := by rw [← hw2]; exact (Fr.refl [] w1).alloc _
  obtain ⟨b2, hb2⟩ : ∃ x, w1.heap.size = x := ⟨_, rfl⟩
  rw [hb2] at P2
  obtain ⟨w3, hw3⟩ : ∃ x, w2.alloc (.cells #[.int .i64 st, .int .i64 ev, .int .i64 sr, .slice none 0 0] RTab) = x := ⟨_, rfl⟩
  have P3 := Pt.newA w2 RTab #[.int .i64 st, .int .i64 ev, .int .i64 sr, .slice none 0 0]
  rw [hw3] at P3
  have F3 : Fr [] w2 w3 := by rw [← hw3]; exact (Fr.refl [] w2).alloc _
  obtain ⟨b3, hb3⟩ : ∃ x, w2.heap.size = x := ⟨_, rfl⟩
  rw [hb3] at P3
  have k1 := (F2.pt P1 (by simp)).cell
  have PA1 := (F2.trans F3).pt P1 (by simp)
  have PA2 := F3.pt P2 (by simp)
  have l1 := P1.lt; have l2 := P2.lt; have l3 := P3.lt
  have FA := (F1.trans F2).trans F3
  have lt12 : b1 < b2 := by omega
  have lt23 : b2 < b3 := by omega
  have hwb : w.heap.size ≤ b1 := by omega
  have hb1' := Lib.hid hb1; have hb2' := Lib.hid hb2; have hb3' := Lib.hid hb3
  have hw3' := Lib.hid hw3
  clear hw3
  have HL := Lib.hid hl
  clear hl
  replace P1 := Lib.hid P1; replace P2 := Lib.hid P2; replace P3 := Lib.hid P3; replace PA1 := Lib.hid PA1; replace PA2 := Lib.hid PA2; replace F1 := Lib.hid F1; replace F2 := Lib.hid F2; replace F3 := Lib.hid F3; replace FA := Lib.hid FA; replace hz2 := Lib.hid hz2
  go_enter Try.func18, Try.ntmps18
  go_wp2_with fail
  rw [hw3'.out]
  have I0 : ToI w b1 b2 b3 st ev sr (.slice o rows.length cap) rows w3 0 (.slice none 0 0) [] none := ⟨PA1.out, PA2.out, P3.out, Row.nil 1 _ none, rfl, by simp, by simp, FA.out⟩
  replace I0 := Lib.hid I0
  clear k1
  go_loopg [4] (rows.length + 1) (fun k v wr => ∃ (i : Nat) (r' : Value) (us : List Value) (bo : Option Nat), i ≤ rows.length ∧ k + i = rows.length + 1 ∧ v = .int .i64 i ∧ ToI w b1 b2 b3 st ev sr (.slice o rows.length cap) rows wr i r' us bo)
  case atStart => exact ⟨0, _, _, _, by omega, by omega, rfl, I0.out⟩
  case round =>
    obtain ⟨i, r', us, bo, hi, hk, rfl, hI⟩ := hrel
    have kt := hI.p1.cell
    have HI := Lib.hid hI
    clear hI
    by_cases hlt : i < rows.length
    · have hltI : (i : Int) < rows.length := by omega
      obtain ⟨B, off, u, rfl, hB, hc, o2, cap2, rfl, hu⟩ := HL.out i hlt
      obtain ⟨row, hrow⟩ : ∃ row, rows[i] = row := ⟨_, rfl⟩
      have hzr := hz2.out _ (List.getElem_mem hlt)
      rw [hrow] at hu hzr hc
      obtain ⟨wo, rfl⟩ : ∃ wo : World, wo = wr := ⟨_, rfl⟩
      obtain ⟨gq, rfl⟩ : ∃ g : Nat, g = gk := ⟨_, rfl⟩
      have cB := HI.out.fr.cell (p := ⟨B, off + i, none⟩) hB (by simp)
      rw [hc] at cB
      have HC := Lib.hid hc
      have HU := Lib.hid hu
      have HR := Lib.hid hrow
      clear hc hu hrow
      go_wp2_with fail
      clear kt cB
      go_loopg [5, 6] (row.length + 1) (fun k v5 v6 wi => ∃ (j : Nat) (bo2 : Option Nat), j ≤ row.length ∧ k + j = row.length + 1 ∧ v6 = .int .i64 j ∧ Row 2 wi v5 (row.take j).length (pcells (row.take j)) bo2 ∧ (∀ z, bo2 = some z → wo.heap.size ≤ z) ∧ Fr [] wo wi)
      case atStart => exact ⟨0, none, by omega, by omega, rfl, Row.nil 2 _ none, by simp, Fr.refl _ _⟩
      case round =>
        obtain ⟨j, bo2, hj, hk2, rfl, hrw, hbo2, hF⟩ := hrel
        have FF := HI.out.fr.trans hF
        obtain ⟨wz, hwz⟩ : ∃ x, wr.drew = x := ⟨_, rfl⟩
        have Fz : Fr [] wr wz := by rw [← hwz]; exact (Fr.refl [] wr).drew
        have kt := (hF.pt HI.out.p1 (by simp)).cell
        have cB := FF.cell (p := ⟨B, off + i, none⟩) hB (by simp)
        rw [HC.out] at cB
        by_cases hltj : j < row.length
        · have hltJ : (j : Int) < row.length := by omega
          obtain ⟨B2, off2, rfl, hB2, ha, hb⟩ := HU.out j hltj
          obtain ⟨⟨x1, x2⟩, hx⟩ : ∃ x, row[j] = x := ⟨_, rfl⟩
          rw [hx] at ha hb
          dsimp only at ha hb
          have ktz := (Fz.pt (hF.pt HI.out.p1 (by simp)) (by simp)).cell
          have cBz := (FF.trans Fz).cell (p := ⟨B, off + i, none⟩) hB (by simp)
          rw [HC.out] at cBz
          have caz := (FF.trans Fz).cell (p := ⟨B2, off2 + j * 2, none⟩) hB2 (by simp)
          rw [ha] at caz
          have cbz := (FF.trans Fz).cell (p := ⟨B2, off2 + j * 2 + 1, none⟩) hB2 (by simp)
          rw [hb] at cbz
          have hjl : (row.take j).length = j := by rw [List.length_take]; omega
          obtain ⟨v', w5, bo3, happ, hrw5, hbo3, f5⟩ := (hrw.fr Fz (by simp)).oneRR (by rw [hjl]; omega) (x1, x2)
          rw [← hx, ← List.take_succ_eq_append_getElem hltj] at hrw5
          have hbo3' : ∀ z, bo3 = some z → wo.heap.size ≤ z := fun z hz => by
            rcases hbo3 with h | ⟨z', h, h2⟩
            · exact hbo2 z (by rw [← h]; exact hz)
            · rw [hz] at h; cases h
              have := hF.size; have := Fz.size
              omega
          have F5 : Fr [] wo w5 := (hF.trans Fz).step f5 (fun z hz => .inr (hbo2 z (by simpa using hz)))
          dsimp only at happ
          have hvl : ∃ oz cz, u5 = .slice oz (row.take j).length cz := hrw.len
          have KW : Hid (w5.cell? ⟨b1, 3, none⟩ = some (.slice (some ⟨B, off, none⟩) rows.length cap) ∧ w5.cell? ⟨B, off + i, none⟩ = some (.slice (some ⟨B2, off2, none⟩) row.length cap2) ∧ w5.cell? ⟨B2, off2 + j * 2, none⟩ = some (.int .i64 x1) ∧ w5.cell? ⟨B2, off2 + j * 2 + 1, none⟩ = some (.int .i64 x2)) :=
            ⟨(F5.pt HI.out.p1 (by simp)).cell 3, by rw [(HI.out.fr.trans F5).cell (p := ⟨B, off + i, none⟩) hB (by simp)]; exact HC.out, by rw [(HI.out.fr.trans F5).cell (p := ⟨B2, off2 + j * 2, none⟩) hB2 (by simp)]; exact ha, by rw [(HI.out.fr.trans F5).cell (p := ⟨B2, off2 + j * 2 + 1, none⟩) hB2 (by simp)]; exact hb⟩
          have ka := FF.cell (p := ⟨B2, off2 + j * 2, none⟩) hB2 (by simp)
          rw [ha] at ka
          have kb := FF.cell (p := ⟨B2, off2 + j * 2 + 1, none⟩) hB2 (by simp)
          rw [hb] at kb
          replace happ := Lib.hid happ; replace hrw5 := Lib.hid hrw5; replace hbo3 := Lib.hid hbo3; replace hbo3' := Lib.hid hbo3'; replace F5 := Lib.hid F5; replace hwz := Lib.hid hwz; replace hx := Lib.hid hx; replace hjl := Lib.hid hjl; replace hrw := Lib.hid hrw; replace hbo2 := Lib.hid hbo2; replace hF := Lib.hid hF; replace FF := Lib.hid FF; replace Fz := Lib.hid Fz; replace f5 := Lib.hid f5; replace hvl := Lib.hid hvl
          clear ha hb
          have happ' := happ.out
          rw [← hwz.out] at happ'
          obtain ⟨wb, hwb⟩ : ∃ n, wr.heap.size = n := ⟨_, rfl⟩
          rw [show wr.drew.heap.size = wb from hwb] at happ'
          obtain ⟨oz, cz, rfl⟩ := hvl.out
          rw [hjl.out, show wr.drew.alloc (.cells #[.int .i64 x1, .int .i64 x2] RRow) = (wr.alloc (.cells #[.int .i64 x1, .int .i64 x2] RRow)).drew from rfl] at happ'
          replace happ' := Lib.hid happ'
          go_upto_region 9 with fail
          clear ktz cBz caz cbz
          go_region_held3 (fun w' => w'.cell? ⟨b1, 3, none⟩ = some (.slice (some ⟨B, off, none⟩) rows.length cap) ∧ w'.cell? ⟨B, off + i, none⟩ = some (.slice (some ⟨B2, off2, none⟩) row.length cap2) ∧ w'.cell? ⟨B2, off2 + j * 2, none⟩ = some (.int .i64 x1) ∧ w'.cell? ⟨B2, off2 + j * 2 + 1, none⟩ = some (.int .i64 x2))
            (first | go_keep | exact KW.out)
            ((first
              | (refine step_append_run rfl _ _ _ rfl (v := .slice oz j cz) rfl (xv := .slice (some ⟨wb, 0, none⟩) 1 1) rfl happ'.out ?_)))
          go_wp2_with fail
          go_roundg (gk - 1)
          case measure => omega
          case rel => exact ⟨j + 1, bo3, by omega, by omega, by go_num, hrw5.out, hbo3'.out, F5.out⟩
        · have hltJ : ¬ (j : Int) < row.length := by omega
          have hjr : row.take j = row := List.take_of_length_le (by omega)
          rw [hjr] at hrw
          have hlen := HI.out.len
          obtain ⟨oz, cz, rfl⟩ := hrw.len
          obtain ⟨v6, w6, bo6, happ, hr6, hb6, f6⟩ := (HI.out.row.fr hF (by simp)).oneRRs (by rw [hlen]; omega) (.slice oz row.length cz) rfl
          obtain ⟨o6, c6, rfl⟩ := hr6.len
          have p3 := hF.pt HI.out.p3 (by simp)
          have c3 := p3.cell
          have hb3n : b3 ∉ bo.toList := fun hm => by have := HI.out.out b3 (by simpa using hm); omega
          have p36 := f6.pt p3 hb3n
          have c36 := p36.cell
          have z36 := p36.free
          have NX := HI.out.next hlt lt12 lt23 hwb hF (by rw [HR.out]; exact hrw) hbo2 hr6 hb6 f6
          simp only [List.length_append, List.length_cons, List.length_nil, Nat.zero_add] at NX happ
          replace NX := Lib.hid NX; replace happ := Lib.hid happ; replace hr6 := Lib.hid hr6; replace hb6 := Lib.hid hb6; replace f6 := Lib.hid f6; replace p3 := Lib.hid p3; replace p36 := Lib.hid p36; replace hb3n := Lib.hid hb3n; replace hlen := Lib.hid hlen; replace hrw := Lib.hid hrw; replace hjr := Lib.hid hjr; replace hbo2 := Lib.hid hbo2; replace hF := Lib.hid hF; replace FF := Lib.hid FF; replace Fz := Lib.hid Fz; replace hwz := Lib.hid hwz
          go_wp2_with (first | (at_builtin; refine wpList_append_run _ rfl _ _ _ rfl rfl rfl happ.out ?_))
          go_roundg (gq - 1)
          case measure => omega
          case rel => exact ⟨i + 1, _, _, _, by omega, by omega, by go_num, NX.out⟩
    · have hltI : ¬ (i : Int) < rows.length := by omega
      have hie : i = rows.length := by omega
      obtain ⟨oe, ce, rfl⟩ := HI.out.row.len
      have c2 := HI.out.p2.cell
      have z2 := HI.out.p2.free
      have c3 := HI.out.p3.cell
      subst hie
      have FE : Fr [b2] wr ((((wr.setCell ⟨b2, 0, none⟩ (.int .i64 st)).setCell ⟨b2, 1, none⟩ (.int .i64 ev)).setCell ⟨b2, 2, none⟩ (.int .i64 sr)).setCell ⟨b2, 3, none⟩ (.slice oe us.length ce)) :=
        ((((Fr.refl [b2] wr).setCell (by simp) _).setCell (by simp) _).setCell (by simp) _).setCell (by simp) _
      have RE := (HI.out.rinb lt23 FE).fr (Fr.refl [] _) (q' := fun b => w.heap.size ≤ b) (fun b _ hq => ⟨by simp, by omega⟩)
      have FF := HI.out.fr.step FE (by simp; omega)
      replace FE := Lib.hid FE; replace RE := Lib.hid RE; replace FF := Lib.hid FF
      go_wp2_with fail
      refine bodyPost_ret (v := .agg #[.int .i64 st, .int .i64 ev, .int .i64 sr, .slice oe us.length ce]) (by simp [results, Try.results18, go_sem, c2]) rfl ⟨_, rfl, (by have h9 := RE.out; rw [hb1'.out] at h9; exact h9), FF.out⟩
theorem to_any (T : Tb) (v : Value) (w : World) (hT : TIn w v T) (hz : Fits T) :
    Calls Try.prog 18 #[v] w fun e w' => ∃ v', e = .returned v' ∧ TIn w' v' T ∧ Fr [] w w' :=
  (to_fresh T v w hT hz).mono fun e w' ⟨r', h1, h2, h3⟩ => ⟨_, h1, ⟨r', rfl, h2.rin⟩, h3⟩
end Go.Proofs.Ytnggimkkjdipmaa
namespace Go.Proofs.Ytnggimkkjdipmaa
open Go.RowKit
set_option linter.unusedVariables false
set_option linter.unusedSimpArgs false
set_option maxHeartbeats 8000000
set_option maxRecDepth 20000
/-! ### keyed -/
def runes (l : List Int) : List Value := l.map (.int .i32)
def bvals (l : List UInt8) : List Value := l.map fun b => .int .u8 (b.toNat : Int)
theorem bvals_len (l : List UInt8) : (bvals l).length = l.length := List.length_map _
theorem uRunes : Try.prog.underlying 144 = some (.slice 21) := by kernel_rfl
theorem uI32 : Try.prog.underlying 21 = some (.int .i32) := by kernel_rfl
theorem uBytes : Try.prog.underlying 152 = some (.slice 5) := by kernel_rfl
theorem uU8 : Try.prog.underlying 5 = some (.int .u8) := by kernel_rfl
theorem uString : Try.prog.underlying 9 = some .string := by kernel_rfl
noncomputable def iU8 : TypeInfo := (Try.prog.info? 5).getD default
theorem infoU8 : Try.prog.info? 5 = some iU8 := by kernel_rfl
noncomputable def zU8 : Value := iU8.zero.getD default
noncomputable def iI32 : TypeInfo := (Try.prog.info? 21).getD default
theorem infoI32 : Try.prog.info? 21 = some iI32 := by kernel_rfl
noncomputable def zI32 : Value := iI32.zero.getD default
theorem Row.twoB {w : World} {v : Value} {l : List UInt8} {bo : Option Nat} (h : Row 1 w v l.length (bvals l) bo) (hn : l.length < 1000000) (x y : UInt8) :
    ∃ v' w' bo', (Builtin.append_ #[152, 152] 152 #[v, .slice (some ⟨w.heap.size, 0, none⟩) 2 2]).run Try.prog (w.alloc (.cells #[.int .u8 (x.toNat : Int), .int .u8 (y.toNat : Int)] 5)) = .ok v' w' ∧
      Row 1 w' v' (l ++ [x, y]).length (bvals (l ++ [x, y])) bo' ∧ (bo' = bo ∨ ∃ z, bo' = some z ∧ w.heap.size ≤ z) ∧ Fr bo.toList w w' := by
  have f1 : Fr [] w (w.alloc (.cells #[.int .u8 (x.toNat : Int), .int .u8 (y.toNat : Int)] 5)) := (Fr.refl [] w).alloc _
  have P1 := Pt.newA w 5 #[.int .u8 (x.toNat : Int), .int .u8 (y.toNat : Int)]
  have h1 := h.fr f1 (by simp)
  have hsrc : Src Try.prog 1 152 (.slice (some ⟨w.heap.size, 0, none⟩) 2 2) 2 (bvals [x, y]) (w.alloc (.cells #[.int .u8 (x.toNat : Int), .int .u8 (y.toNat : Int)] 5)) := Src.ofSlice _ uBytes ⟨w.heap.size, 0, none⟩ 2 2 _ rfl (fun j u hu => by rw [Addr.add_lit, P1.cell, Nat.zero_add]; exact hu) (by intro u hu; simp [bvals] at hu; rcases hu with rfl | rfl <;> rfl)
  obtain ⟨v', w', bo', hrun, hr, hb, hf⟩ := h1.append (t := 152) (ty := 152) (e := 5) (i := iU8) (z := zU8) uBytes infoU8 (by kernel_rfl) (by kernel_rfl) (by omega) (by kernel_rfl) (of_decide_eq_true (by kernel_rfl)) hn hsrc (by omega) (by omega)
  refine ⟨v', w', bo', hrun, ?_, ?_, (f1.mono (by simp)).trans hf⟩
  · rw [show bvals (l ++ [x, y]) = bvals l ++ bvals [x, y] from List.map_append, List.length_append]; exact hr
  · rcases hb with hb | hb
    · exact .inl hb
    · exact .inr ⟨_, hb, f1.size⟩
/-- string(b). -/
theorem str_of_row {w : World} {v : Value} {l : List UInt8} {bo : Option Nat} (h : Row 1 w v l.length (bvals l) bo) :
    (convert 152 9 v).run Try.prog w = .ok (.string ⟨l.toArray⟩) w := by
  have hfold : ∀ (l : List UInt8) (s : ByteArray), (l.map fun b => (b.toNat : Int)).foldl (fun r n => r.push (UInt8.ofNat n.toNat)) s = ⟨s.data ++ l.toArray⟩ := by
    intro l
    induction l with
    | nil => intro s; simp
    | cons b l ih =>
      intro s
      simp only [List.map_cons, List.foldl_cons, ih]
      congr 1
      simp [ByteArray.push]
  obtain ⟨o, cap, rfl⟩ := h.len
  rw [run_convert_bytes_string w _ _ _ _ _ _ uBytes uU8 uString]
  rcases h with ⟨_, h2, _, o', h4⟩ | ⟨b, off, cap', hb, he, h3, h4, h5, _, h7⟩
  · have hl : l = [] := List.eq_nil_of_length_eq_zero h2
    subst hl
    cases h4
    cases o with
    | none =>
      simp [Conv.bytesToString, ByteArray.empty, ByteArray.emptyWithCapacity]
      rfl
    | some a =>
      rw [run_bytesToString w a _ _ [] (by simp [loadCells, loadCellsFrom])]
      rfl
  · cases he
    have hc := run_loadCells (P := Try.prog) (w := w) ⟨b, off, none⟩ l.length (fun j => .int .u8 ((l.getD j 0).toNat : Int)) (fun j hj => by
      rw [Addr.add_lit, h7 j (by omega)]
      simp [bvals, hj])
    rw [run_bytesToString w _ _ _ (l.map fun b => (b.toNat : Int)) (by
      rw [hc]
      congr 2
      apply List.ext_getElem
      · simp
      · intro i h1 h2
        have hi : i < l.length := by simpa using h1
        simp [hi])]
    rw [hfold]
    simp [ByteArray.empty, ByteArray.emptyWithCapacity]
    rfl
theorem keyB_snoc (l : List Int) (n : Int) : keyB (l ++ [n]) = keyB l ++ [byteI ((n + 1) / 256), byteI (n + 1)] := by simp [keyB]
theorem keyB_len (l : List Int) : (keyB l).length = 2 * l.length := by
  induction l with
  | nil => rfl
  | cons x l ih => simp only [keyB, List.flatMap_cons, List.length_append, List.length_cons, List.length_nil] at ih ⊢; omega
theorem byteI_val (n : Int) (h0 : 0 ≤ n) : ((byteI n).toNat : Int) = n % 256 := by unfold byteI; simp; omega
/-- A list of runes. -/
def UIn (w : World) (v : Value) (l : List Int) : Prop := ∃ o cap, v = .slice o l.length cap ∧ ∀ i (h : i < l.length), ∃ b off, o = some ⟨b, off, none⟩ ∧ b < w.heap.size ∧ w.cell? ⟨b, off + i, none⟩ = some (.int .i32 l[i])
theorem keyed_any (v : Value) (l : List Int) (w : World) (hD : UIn w v l) (hr : ∀ n ∈ l, -1 ≤ n ∧ n ≤ 999) (hl : l.length ≤ 100) :
    Calls Try.prog 103 #[v] w fun e w' => e = .returned (.string ⟨(keyB l).toArray⟩) ∧ Fr [] w w' := by
  obtain ⟨o, cap, rfl, hd⟩ := hD
  have hmk := run_make (P := Try.prog) w 152 5 iU8 zU8 uBytes infoU8 (by kernel_rfl) .i64 .i64 0 (2 * (l.length : Int)) (by omega) (by omega) (by rw [show iU8.bytes = 1 by kernel_rfl]; omega) (by omega)
  obtain ⟨C, hC⟩ : ∃ C, madeCells zU8.cells ((2 * (l.length : Int)).toNat * iU8.size) = C := ⟨_, rfl⟩
  have hCs : C.size = 2 * l.length := by rw [← hC, size_madeCells, show iU8.size = 1 by kernel_rfl]; omega
  rw [hC] at hmk
  clear hC
  obtain ⟨w1, hw1⟩ : ∃ x, w.alloc (.cells C 5) = x := ⟨_, rfl⟩
  have P1 := Pt.newA w 5 C
  rw [hw1] at P1 hmk
  have F1 : Fr [] w w1 := by rw [← hw1]; exact (Fr.refl [] w).alloc _
  obtain ⟨bb, hbb⟩ : ∃ x, w.heap.size = x := ⟨_, rfl⟩
  rw [hbb] at P1 hmk
  rw [show (0 : Int).toNat = 0 from rfl, show (2 * (l.length : Int)).toNat = 2 * l.length by omega] at hmk
  have R0 : Row 1 w1 (.slice (some ⟨bb, 0, none⟩) 0 (2 * l.length)) 0 (bvals []) (some bb) := by
    refine .inr ⟨bb, 0, 2 * l.length, rfl, rfl, by omega, P1.lt, by simp [bvals], fun j hj => ⟨?_, by rw [Nat.zero_add]; exact P1.free j⟩, fun j hj => by omega⟩
    rw [Nat.zero_add, P1.cell, List.getElem?_eq_getElem (by rw [Array.length_toList, hCs]; omega)]
    rfl
  replace hd := Lib.hid hd; replace hr := Lib.hid hr; replace P1 := Lib.hid P1; replace F1 := Lib.hid F1; replace R0 := Lib.hid R0; replace hCs := Lib.hid hCs
  clear hw1
  go_enter Try.func103, Try.ntmps103
  go_wp2_with fail
  go_loopg [3, 12] (l.length + 1) (fun k v3 v12 wr => ∃ (i : Nat) (bo : Option Nat), i ≤ l.length ∧ k + i = l.length + 1 ∧ v12 = .int .i64 i ∧ Row 1 wr v3 (keyB (l.take i)).length (bvals (keyB (l.take i))) bo ∧ (∀ z, bo = some z → w.heap.size ≤ z) ∧ Fr [] w wr)
  case atStart => exact ⟨0, some bb, by omega, by omega, rfl, R0.out, by simp; omega, F1.out⟩
  case round =>
    obtain ⟨i, bo, hi, hk, rfl, hrw, hbo, hF⟩ := hrel
    by_cases hlt : i < l.length
    · have hltI : (i : Int) < l.length := by omega
      obtain ⟨b, off, rfl, hb, hc⟩ := hd.out i hlt
      have hrn := hr.out _ (List.getElem_mem hlt)
      have hsn : l.take (i + 1) = l.take i ++ [l[i]] := List.take_succ_eq_append_getElem hlt
      obtain ⟨n, hn⟩ : ∃ n, l[i] = n := ⟨_, rfl⟩
      rw [hn] at hc hrn hsn
      have ci := hF.cell (p := ⟨b, off + i, none⟩) hb (by simp)
      rw [hc] at ci
      obtain ⟨v', w5, bo', happ, hrw5, hbo5, f5⟩ := hrw.twoB (by rw [keyB_len, List.length_take]; omega) (byteI ((n + 1) / 256)) (byteI (n + 1))
      rw [← keyB_snoc, ← hsn] at hrw5
      rw [byteI_val _ (by omega), byteI_val _ (by omega)] at happ
      have q0 : IntKind.i32.wrap (n + 1) = n + 1 := by rw [IntKind.wrap_i32]; omega
      have q1 : IntKind.u8.wrap ((n + 1) / 256) = (n + 1) / 256 % 256 := by rw [IntKind.wrap_u8]
      have q2 : IntKind.u8.wrap (n + 1) = (n + 1) % 256 := by rw [IntKind.wrap_u8]
      have q3 : (2 : Int) ^ 8 = 256 := by decide
      have hbo5' : ∀ z, bo' = some z → w.heap.size ≤ z := fun z hz => by
        rcases hbo5 with h | ⟨z', h, h2⟩
        · exact hbo z (by rw [← h]; exact hz)
        · rw [hz] at h; cases h
          have := hF.size; omega
      have F5 : Fr [] w w5 := hF.step f5 (fun z hz => .inr (hbo z (by simpa using hz)))
      replace happ := Lib.hid happ; replace hrw5 := Lib.hid hrw5; replace hbo5 := Lib.hid hbo5; replace hbo5' := Lib.hid hbo5'; replace F5 := Lib.hid F5; replace f5 := Lib.hid f5; replace hsn := Lib.hid hsn; replace hrw := Lib.hid hrw; replace hbo := Lib.hid hbo; replace hF := Lib.hid hF; replace hn := Lib.hid hn
      clear hc
      go_wp2_with (first | (at_builtin; refine wpList_append_run _ rfl _ _ _ rfl rfl rfl happ.out ?_))
      go_roundg (gk - 1)
      case measure => omega
      case rel => exact ⟨i + 1, bo', by omega, by omega, by go_num, hrw5.out, hbo5'.out, F5.out⟩
    · have hltI : ¬ (i : Int) < l.length := by omega
      rw [List.take_of_length_le (by omega)] at hrw
      have hst := str_of_row hrw
      replace hrw := Lib.hid hrw; replace hF := Lib.hid hF
      go_wp2_with fail
      go_ret
      exact ⟨rfl, hF.out⟩
end Go.Proofs.Ytnggimkkjdipmaa
namespace Go.Proofs.Ytnggimkkjdipmaa
open Go.RowKit
set_option linter.unusedVariables false
set_option linter.unusedSimpArgs false
set_option maxHeartbeats 8000000
set_option maxRecDepth 20000
/-! ### What classes wants: keys in a map, rows of runes -/
def strK (l : List UInt8) : Value := .string ⟨l.toArray⟩
theorem isKey_str' (k : List UInt8) : MapKept.IsKey .string (strK k) := by simp [MapKept.IsKey, strK]
theorem strK_inj (a b : List UInt8) (h : strK a = strK b) : a = b := by
  unfold strK at h
  injection h with h
  injection h with h
  exact List.toArray_inj h
/-- The first place of a key. -/
def idxK {κ : Type} [DecidableEq κ] (l : List κ) (k : κ) : Nat := l.idxOf k
theorem idxK_cons {κ : Type} [DecidableEq κ] (l : List κ) (x k : κ) (h : ¬ x = k) : idxK (x :: l) k = idxK l k + 1 := by
  unfold idxK
  have hne : (x == k) = false := by simpa using h
  rw [List.idxOf_cons, hne]
  rfl
theorem idxK_head {κ : Type} [DecidableEq κ] (l : List κ) (k : κ) : idxK (k :: l) k = 0 := by simp [idxK]
theorem idxK_new {κ : Type} [DecidableEq κ] : ∀ (l : List κ) (k : κ), k ∉ l → idxK (l ++ [k]) k = l.length
  | [], k, _ => by simp [idxK]
  | x :: l, k, h => by
    have h1 : ¬ x = k := fun e => h (by simp [e])
    have h2 : k ∉ l := fun e => h (by simp [e])
    show idxK (x :: (l ++ [k])) k = _
    rw [idxK_cons _ _ _ h1, idxK_new l k h2]; rfl
theorem numG_snocK {κ : Type} [DecidableEq κ] (ks known : List κ) (k : κ) : numG known (ks ++ [k]) = ((numG known ks).1 ++ [idxK (addK (numG known ks).2 k) k], addK (numG known ks).2 k) := numG_snoc ks known k
def enumF : Nat → List (List UInt8) → List (List UInt8 × Value)
  | _, [] => []
  | n, k :: ks => (k, .int .i64 (n : Int)) :: enumF (n + 1) ks
theorem enumF_len : ∀ (ks : List (List UInt8)) (n : Nat), (enumF n ks).length = ks.length
  | [], _ => rfl
  | k :: ks, n => by simp [enumF, enumF_len ks]
theorem enumF_get : ∀ (ks : List (List UInt8)) (n : Nat) (k : List UInt8), kget (enumF n ks) k = if k ∈ ks then some (.int .i64 ((n + idxK ks k : Nat) : Int)) else none
  | [], _, _ => by simp [enumF, kget]
  | x :: ks, n, k => by
    unfold enumF kget
    by_cases h : x = k
    · subst h; simp [idxK_head]
    · rw [if_neg h, enumF_get ks (n + 1) k]
      by_cases hm : k ∈ ks
      · rw [if_pos hm, if_pos (List.mem_cons_of_mem _ hm), idxK_cons _ _ _ h]
        simp only [Option.some.injEq, Value.int.injEq, true_and]
        omega
      · have hm2 : ¬ k ∈ x :: ks := fun h2 => by
          rcases List.mem_cons.mp h2 with e | e
          · exact h e.symm
          · exact hm e
        rw [if_neg hm, if_neg hm2]
theorem enumF_set : ∀ (ks : List (List UInt8)) (n : Nat) (k : List UInt8), k ∉ ks → kset (enumF n ks) k (.int .i64 ((n + ks.length : Nat) : Int)) = enumF n (ks ++ [k])
  | [], n, k, _ => by simp [enumF, kset]
  | x :: ks, n, k, h => by
    have h1 : ¬ x = k := fun e => h (by simp [e])
    have h2 : k ∉ ks := fun e => h (by simp [e])
    have := enumF_set ks (n + 1) k h2
    unfold enumF kset
    rw [if_neg h1]
    show _ = (x, _) :: enumF (n + 1) (ks ++ [k])
    rw [← this]
    congr 2
    simp only [List.length_cons]
    congr 1
    congr 1
    omega
theorem uMapS : Try.prog.underlying 143 = some (.map 9 3) := by kernel_rfl
theorem zInt_run : ∀ w, (zeroValue 3).run Try.prog w = .ok (.int .i64 0) w := by
  intro w
  have hz : Try.t3.zero = some (.int .i64 0) := by kernel_rfl
  simp [zeroValue, run_underlying uInt, go_sem, hz]
/-- Runes, in a row. -/
theorem Row.twoR {w : World} {v : Value} {l : List Int} {bo : Option Nat} (h : Row 1 w v l.length (runes l) bo) (hn : l.length < 1000000) (x y : Int) :
    ∃ v' w' bo', (Builtin.append_ #[144, 144] 144 #[v, .slice (some ⟨w.heap.size, 0, none⟩) 2 2]).run Try.prog (w.alloc (.cells #[.int .i32 x, .int .i32 y] 21)) = .ok v' w' ∧
      Row 1 w' v' (l ++ [x, y]).length (runes (l ++ [x, y])) bo' ∧ (bo' = bo ∨ ∃ z, bo' = some z ∧ w.heap.size ≤ z) ∧ Fr bo.toList w w' := by
  have f1 : Fr [] w (w.alloc (.cells #[.int .i32 x, .int .i32 y] 21)) := (Fr.refl [] w).alloc _
  have P1 := Pt.newA w 21 #[.int .i32 x, .int .i32 y]
  have h1 := h.fr f1 (by simp)
  have hsrc : Src Try.prog 1 144 (.slice (some ⟨w.heap.size, 0, none⟩) 2 2) 2 (runes [x, y]) (w.alloc (.cells #[.int .i32 x, .int .i32 y] 21)) := Src.ofSlice _ uRunes ⟨w.heap.size, 0, none⟩ 2 2 _ rfl (fun j u hu => by rw [Addr.add_lit, P1.cell, Nat.zero_add]; exact hu) (by intro u hu; simp [runes] at hu; rcases hu with rfl | rfl <;> rfl)
  obtain ⟨v', w', bo', hrun, hr, hb, hf⟩ := h1.append (t := 144) (ty := 144) (e := 21) (i := iI32) (z := zI32) uRunes infoI32 (by kernel_rfl) (by kernel_rfl) (by omega) (by kernel_rfl) (of_decide_eq_true (by kernel_rfl)) hn hsrc (by omega) (by omega)
  refine ⟨v', w', bo', hrun, ?_, ?_, (f1.mono (by simp)).trans hf⟩
  · rw [show runes (l ++ [x, y]) = runes l ++ runes [x, y] from List.map_append, List.length_append]; exact hr
  · rcases hb with hb | hb
    · exact .inl hb
    · exact .inr ⟨_, hb, f1.size⟩
theorem Row.uin {w : World} {v : Value} {l : List Int} {bo : Option Nat} (h : Row 1 w v l.length (runes l) bo) : UIn w v l := by
  rcases h with ⟨_, h2, _, o, rfl⟩ | ⟨b, off, cap, hb, rfl, h3, h4, _, _, h7⟩
  · exact ⟨o, 0, by rw [h2], fun i h => by omega⟩
  · exact ⟨_, cap, rfl, fun i h => ⟨b, off, rfl, h4, by rw [h7 i (by omega)]; simp [runes, h]⟩⟩
/-- A new row of numbers, all 0. -/
theorem make_ints (n : Int) (w : World) (h0 : 0 ≤ n) (h1 : n ≤ 1000) :
    (Instr.makeSlice 25 (.int .i64 n) (.int .i64 n)).run Try.prog w = .ok (.slice (some ⟨w.heap.size, 0, none⟩) n.toNat n.toNat) (w.alloc (.cells (ints (List.replicate n.toNat 0)).toArray 3)) := by
  rw [run_make (P := Try.prog) w 25 3 iInt zInt uInts infoInt (by kernel_rfl) .i64 .i64 n n h0 (by omega) (by rw [show iInt.bytes = 8 by kernel_rfl]; omega) (by omega)]
  congr 3
  rw [show iInt.size = 1 by kernel_rfl, show zInt.cells = #[.int .i64 0] by kernel_rfl]
  unfold madeCells ints
  apply Array.ext
  · simp
  · intro i h1 h2
    simp [Nat.mod_one]
theorem ints_set (l : List Int) (i : Nat) (x : Int) : (ints l).set i (.int .i64 x) = ints (l.set i x) := by simp [ints]
/-- The numbers so far, the rest 0. -/
def half (c : List Int) (n : Nat) : List Int := c ++ List.replicate (n - c.length) 0
theorem half_set (c : List Int) (n : Nat) (h : c.length < n) (x : Int) : (half c n).set c.length x = half (c ++ [x]) n := by
  unfold half
  obtain ⟨k, hk⟩ : ∃ k, n - c.length = k + 1 := ⟨n - c.length - 1, by omega⟩
  rw [hk, List.replicate_succ, List.set_append_right _ _ (Nat.le_refl _), Nat.sub_self]
  simp only [List.set_cons_zero, List.length_append, List.length_cons, List.length_nil, List.append_assoc, List.cons_append, List.nil_append]
  rw [show n - (c.length + (0 + 1)) = k by omega]
theorem half_all (c : List Int) : half c c.length = c := by simp [half]
theorem half_nil (n : Nat) : half [] n = List.replicate n 0 := by simp [half]
theorem half_len (c : List Int) (n : Nat) (h : c.length ≤ n) : (half c n).length = n := by simp [half]; omega
theorem Pt.nin {w : World} {b : Nat} {l : List Int} {T : TypeId} (h : Pt w b T (ints l)) (n cap : Nat) (hn : n = l.length) : NIn w (.slice (some ⟨b, 0, none⟩) n cap) l := by
  subst hn
  exact ⟨_, cap, rfl, fun i hi => ⟨b, 0, rfl, h.lt, by rw [h.cell, Nat.zero_add]; simp [ints, hi]⟩⟩
end Go.Proofs.Ytnggimkkjdipmaa
