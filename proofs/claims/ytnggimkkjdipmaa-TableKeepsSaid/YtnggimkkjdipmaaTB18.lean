import Derived.Test.YtnggimkkjdipmaaTB17
import Derived.Test.YtnggimkkjdipmaaTP6
namespace Go.Proofs.Ytnggimkkjdipmaa
open Go.RowKit
set_option linter.unusedVariables false
set_option linter.unusedSimpArgs false
set_option maxHeartbeats 16000000
set_option maxRecDepth 20000
def enumI : Nat → List Int → List (Int × Value)
  | _, [] => []
  | n, k :: ks => (k, .int .i64 (n : Int)) :: enumI (n + 1) ks
theorem enumI_len : ∀ (ks : List Int) (n : Nat), (enumI n ks).length = ks.length
  | [], _ => rfl
  | k :: ks, n => by simp [enumI, enumI_len ks]
theorem enumI_get : ∀ (ks : List Int) (n : Nat) (k : Int), kget (enumI n ks) k = if k ∈ ks then some (.int .i64 ((n + idxK ks k : Nat) : Int)) else none
  | [], _, _ => by simp [enumI, kget]
  | x :: ks, n, k => by
    unfold enumI kget
    by_cases h : x = k
    · subst h; simp [idxK_head]
    · rw [if_neg h, enumI_get ks (n + 1) k]
      by_cases hm : k ∈ ks
      · rw [if_pos hm, if_pos (List.mem_cons_of_mem _ hm), idxK_cons _ _ _ h]
        simp only [Option.some.injEq, Value.int.injEq, true_and]
        omega
      · have hm2 : ¬ k ∈ x :: ks := fun h2 => by
          rcases List.mem_cons.mp h2 with e | e
          · exact h e.symm
          · exact hm e
        rw [if_neg hm, if_neg hm2]
theorem enumI_set : ∀ (ks : List Int) (n : Nat) (k : Int), k ∉ ks → kset (enumI n ks) k (.int .i64 ((n + ks.length : Nat) : Int)) = enumI n (ks ++ [k])
  | [], n, k, _ => by simp [enumI, kset]
  | x :: ks, n, k, h => by
    have h1 : ¬ x = k := fun e => h (by simp [e])
    have h2 : k ∉ ks := fun e => h (by simp [e])
    have := enumI_set ks (n + 1) k h2
    unfold enumI kset
    rw [if_neg h1]
    show _ = (x, _) :: enumI (n + 1) (ks ++ [k])
    rw [← this]
    congr 2
    simp only [List.length_cons]
    congr 1
    congr 1
    omega
theorem uTRows : Try.prog.underlying 71 = some (.slice TRow) := by kernel_rfl
theorem uTRs : Try.prog.underlying 22 = some (.slice 71) := by kernel_rfl
noncomputable def iTRow : TypeInfo := (Try.prog.info? TRow).getD default
theorem infoTRow : Try.prog.info? TRow = some iTRow := by kernel_rfl
noncomputable def zTRow : Value := iTRow.zero.getD default
noncomputable def iTRows : TypeInfo := (Try.prog.info? 71).getD default
theorem infoTRows : Try.prog.info? 71 = some iTRows := by kernel_rfl
noncomputable def zTRows : Value := iTRows.zero.getD default
theorem bytesTRow : iTRow.bytes = 16 := by kernel_rfl
theorem bytesTRows : iTRows.bytes = 24 := by kernel_rfl
/-- One more row of a state. -/
theorem Row.oneTR {w : World} {v : Value} {l : List (Int × Int)} {bo : Option Nat} (h : Row 2 w v l.length (pcells l) bo) (hn : (l.length + 1) * 16 ≤ 140737488355328) (x : Int × Int) :
    ∃ v' w' bo', (Builtin.append_ #[71, 71] 71 #[v, .slice (some ⟨w.heap.size, 0, none⟩) 1 1]).run Try.prog (w.alloc (.cells #[.int .i64 x.1, .int .i64 x.2] TRow)) = .ok v' w' ∧
      Row 2 w' v' (l ++ [x]).length (pcells (l ++ [x])) bo' ∧ (bo' = bo ∨ ∃ z, bo' = some z ∧ w.heap.size ≤ z) ∧ Fr bo.toList w w' := by
  have f1 : Fr [] w (w.alloc (.cells #[.int .i64 x.1, .int .i64 x.2] TRow)) := (Fr.refl [] w).alloc _
  have P1 := Pt.newA w TRow #[.int .i64 x.1, .int .i64 x.2]
  have h1 := h.fr f1 (by simp)
  have hsrc : Src Try.prog 2 71 (.slice (some ⟨w.heap.size, 0, none⟩) 1 1) 1 (pcells [x]) (w.alloc (.cells #[.int .i64 x.1, .int .i64 x.2] TRow)) := Src.ofSlice _ uTRows ⟨w.heap.size, 0, none⟩ 1 1 _ rfl (fun j u hu => by rw [Addr.add_lit, P1.cell, Nat.zero_add]; exact hu) (by intro u hu; simp [pcells] at hu; rcases hu with rfl | rfl <;> rfl)
  obtain ⟨v', w', bo', hrun, hr, hb, hf⟩ := h1.appendW (t := 71) (ty := 71) (e := TRow) (i := iTRow) (z := zTRow) uTRows infoTRow (by kernel_rfl) (by kernel_rfl) (by omega) (by kernel_rfl) hsrc (by omega) (by rw [bytesTRow]; exact hn) (by omega)
  refine ⟨v', w', bo', hrun, ?_, ?_, (f1.mono (by simp)).trans hf⟩
  · rw [pcells_app, List.length_append]; exact hr
  · rcases hb with hb | hb
    · exact .inl hb
    · exact .inr ⟨_, hb, f1.size⟩
/-- One more row of rows. -/
theorem Row.oneTRs {w : World} {v : Value} {l : List Value} {bo : Option Nat} (h : Row 1 w v l.length l bo) (hn : (l.length + 1) * 24 ≤ 140737488355328) (x : Value) (hx : x.oneCell' = true) :
    ∃ v' w' bo', (Builtin.append_ #[22, 22] 22 #[v, .slice (some ⟨w.heap.size, 0, none⟩) 1 1]).run Try.prog (w.alloc (.cells #[x] 71)) = .ok v' w' ∧
      Row 1 w' v' (l ++ [x]).length (l ++ [x]) bo' ∧ (bo' = bo ∨ ∃ z, bo' = some z ∧ w.heap.size ≤ z) ∧ Fr bo.toList w w' := by
  have f1 : Fr [] w (w.alloc (.cells #[x] 71)) := (Fr.refl [] w).alloc _
  have P1 := Pt.newA w 71 #[x]
  have h1 := h.fr f1 (by simp)
  have hsrc : Src Try.prog 1 22 (.slice (some ⟨w.heap.size, 0, none⟩) 1 1) 1 [x] (w.alloc (.cells #[x] 71)) := Src.ofSlice _ uTRs ⟨w.heap.size, 0, none⟩ 1 1 _ rfl (fun j u hu => by rw [Addr.add_lit, P1.cell, Nat.zero_add]; exact hu) (by intro u hu; simp at hu; rw [hu]; exact hx)
  obtain ⟨v', w', bo', hrun, hr, hb, hf⟩ := h1.appendW (t := 22) (ty := 22) (e := 71) (i := iTRows) (z := zTRows) uTRs infoTRows (by kernel_rfl) (by kernel_rfl) (by omega) (by kernel_rfl) hsrc (by omega) (by rw [bytesTRows]; exact hn) (by omega)
  refine ⟨v', w', bo', hrun, ?_, ?_, (f1.mono (by simp)).trans hf⟩
  · rw [List.length_append]; exact hr
  · rcases hb with hb | hb
    · exact .inl hb
    · exact .inr ⟨_, hb, f1.size⟩
/-- least's rows, half done. -/
structure LeI (w : World) (b3 : Nat) (st ev sr : Int) (rows : List (List (Int × Int))) (wr : World) (i : Nat) (r' : Value) (us : List Value) (bo : Option Nat) : Prop where
  p3 : Pt wr b3 TTab [.int .i64 st, .int .i64 ev, .int .i64 sr, r']
  row : Row 1 wr r' us.length us bo
  len : us.length = i
  out : ∀ z, bo = some z → b3 < z
  pin : ∀ k (h : k < us.length) (h2 : k < rows.length), PInB (fun b => b3 < b ∧ b ∉ bo.toList) wr us[k] rows[k]
  fr : Fr [] w wr
theorem LeI.next {w : World} {b3 : Nat} {st ev sr : Int} {rows : List (List (Int × Int))} {wo wr w6 : World} {i : Nat} {r' v5 v6 : Value} {us : List Value} {bo bo2 bo6 : Option Nat}
    (h : LeI w b3 st ev sr rows wo i r' us bo) (hi : i < rows.length) (hw : w.heap.size ≤ b3) (hF : Fr [] wo wr)
    (hrw : Row 2 wr v5 (rows[i]).length (pcells rows[i]) bo2) (hbo2 : ∀ z, bo2 = some z → wo.heap.size ≤ z)
    (hr6 : Row 1 w6 v6 (us ++ [v5]).length (us ++ [v5]) bo6) (hb6 : bo6 = bo ∨ ∃ z, bo6 = some z ∧ wr.heap.size ≤ z) (f6 : Fr bo.toList wr w6) :
    LeI w b3 st ev sr rows (w6.setCell ⟨b3, 3, none⟩ v6) (i + 1) v6 (us ++ [v5]) bo6 := by
  have l3 := h.p3.lt
  have hsz := hF.size
  have fs : Fr [b3] w6 (w6.setCell ⟨b3, 3, none⟩ v6) := (Fr.refl _ _).setCell (by simp) _
  have FA : Fr (b3 :: bo.toList) wo (w6.setCell ⟨b3, 3, none⟩ v6) := ((hF.mono (by simp)).trans (f6.mono (fun x hx => by simp [hx]))).trans (fs.mono (by simp))
  have hbm : ∀ z ∈ bo.toList, b3 < z ∧ z < wo.heap.size := fun z hz => by
    have hz' : bo = some z := by simpa using hz
    have := h.row
    rw [hz'] at this
    exact ⟨h.out z hz', this.lt⟩
  have hb6' : ∀ z, bo6 = some z → b3 < z := fun z hz => by
    rcases hb6 with e | ⟨z', e, h2⟩
    · exact h.out z (by rw [← e]; exact hz)
    · rw [hz] at e; cases e; omega
  have hnew : ∀ b, b < wr.heap.size → b ∉ bo.toList → b ∉ bo6.toList := fun b hb hn hm => by
    have hm' : bo6 = some b := by simpa using hm
    rcases hb6 with e | ⟨z', e, h2⟩
    · exact hn (by rw [← e]; exact hm)
    · rw [hm'] at e; cases e; omega
  refine ⟨(f6.pt (hF.pt h.p3 (by simp)) (fun hm => ?_)).set' rfl, hr6.fr fs (fun z hz hm => ?_), by rw [List.length_append, h.len]; rfl, hb6', fun k hk hk2 => ?_, ?_⟩
  · have := (hbm _ hm).1; omega
  · have := hb6' z hz
    simp at hm; omega
  · by_cases e : k < us.length
    · rw [List.getElem_append_left e]
      refine (h.pin k e hk2).fr FA (fun b hb hq => ⟨fun hm => ?_, hq.1, hnew b (by omega) hq.2⟩)
      rcases List.mem_cons.mp hm with e2 | e2
      · omega
      · exact hq.2 e2
    · have hki : k = us.length := by simp at hk; omega
      have hki2 : k = i := by rw [hki, h.len]
      subst hki2
      rw [List.getElem_append_right (by omega)]
      have : (us ++ [v5])[k]'hk = v5 := by
        rw [List.getElem_append_right (by omega)]; simp [hki]
      have e5 : [v5][k - us.length]'(by simp at hk; simp; omega) = v5 := by simp
      rw [e5]
      have hp : PInB (fun b => wo.heap.size ≤ b) wr v5 rows[k] := hrw.pinb hbo2
      have FB : Fr (b3 :: bo.toList) wr (w6.setCell ⟨b3, 3, none⟩ v6) := (f6.mono (fun x hx => by simp [hx])).trans (fs.mono (by simp))
      refine hp.fr FB (fun b hb hq => ⟨fun hm => ?_, by omega, hnew b hb (fun hm => ?_)⟩)
      · rcases List.mem_cons.mp hm with e2 | e2
        · omega
        · have := (hbm _ e2).2; omega
      · have := (hbm _ hm).2; omega
  · refine h.fr.step FA (fun x hx => .inr ?_)
    rcases List.mem_cons.mp hx with e | e
    · omega
    · have := (hbm _ e).1; omega
theorem LeI.rin {w : World} {b3 : Nat} {st ev sr : Int} {rows : List (List (Int × Int))} {wr w' : World} {r' : Value} {us : List Value} {bo : Option Nat}
    (h : LeI w b3 st ev sr rows wr rows.length r' us bo) {b2 : Nat} (h23 : b2 < b3) (hf : Fr [b2] wr w') : RIn w' r' rows := by
  have hr := h.row.fr hf (fun z hz hm => by have := h.out z hz; simp at hm; omega)
  have hlen := h.len
  have hp : ∀ k (hk : k < us.length) (hk2 : k < rows.length), PIn w' us[k] rows[k] := fun k hk hk2 => ((h.pin k hk hk2).fr (q' := fun _ => True) hf (fun b _ hq => ⟨fun hm => by have := hq.1; simp at hm; omega, trivial⟩)).pin
  rcases hr with ⟨_, h2, _, o, rfl⟩ | ⟨b, off, cap, hb, rfl, h3, h4, _, _, h7⟩
  · exact ⟨o, 0, by rw [← hlen, h2], fun i hi => by omega⟩
  · refine ⟨_, cap, by rw [hlen], fun i hi => ⟨b, off, us[i]'(by omega), rfl, h4, ?_, hp i (by omega) hi⟩⟩
    rw [h7 i (by omega), List.getElem?_eq_getElem (by omega)]

theorem LeI.rinb {w : World} {b3 : Nat} {st ev sr : Int} {rows : List (List (Int × Int))} {wr w' : World} {r' : Value} {us : List Value} {bo : Option Nat}
    (h : LeI w b3 st ev sr rows wr rows.length r' us bo) {b2 : Nat} (h23 : b2 < b3) (hf : Fr [b2] wr w') : RInB (fun b => b3 < b) w' r' rows := by
  have hr := h.row.fr hf (fun z hz hm => by have := h.out z hz; simp at hm; omega)
  have hlen := h.len
  have hp : ∀ k (hk : k < us.length) (hk2 : k < rows.length), PInB (fun b => b3 < b) w' us[k] rows[k] := fun k hk hk2 => ((h.pin k hk hk2).fr hf (fun b _ hq => ⟨fun hm => by have := hq.1; simp at hm; omega, hq.1⟩))
  rcases hr with ⟨_, h2, _, o, rfl⟩ | ⟨b, off, cap, hb, rfl, h3, h4, _, _, h7⟩
  · exact ⟨o, 0, by rw [← hlen, h2], fun i hi => by omega⟩
  · refine ⟨_, cap, by rw [hlen], fun i hi => ⟨b, off, us[i]'(by omega), rfl, h4, h.out b hb, ?_, hp i (by omega) hi⟩⟩
    rw [h7 i (by omega), List.getElem?_eq_getElem (by omega)]
/-- least's first round, half done. -/
structure LsI (wb : World) (bm : Nat) (cls mem : List Int) (wr : World) (mv : Value) (bo : Option Nat) : Prop where
  row : Row 1 wr mv mem.length (ints mem) bo
  mp : MapK intK wr bm (enumI 0 (mem.map (gI cls)))
  out : ∀ z, bo = some z → bm < z
  gt : wb.heap.size ≤ bm
  fr : Fr [] wb wr
theorem LsI.step {wb : World} {bm : Nat} {cls mem : List Int} {wr : World} {mv : Value} {bo : Option Nat} (h : LsI wb bm cls mem wr mv bo) {s : Int} {w7 w8 : World} {v' : Value} {bo' : Option Nat}
    (M : MapK intK w7 bm (enumI 0 ((mem ++ [s]).map (gI cls)))) (f7 : Fr [bm] wr w7) (hr : Row 1 w8 v' (mem ++ [s]).length (ints (mem ++ [s])) bo') (hb : bo' = bo ∨ ∃ z, bo' = some z ∧ w7.heap.size ≤ z) (f8 : Fr bo.toList w7 w8) :
    LsI wb bm cls (mem ++ [s]) w8 v' bo' := by
  have l1 := h.mp.lt
  have s7 := f7.size
  refine ⟨hr, M.fr f8 (fun hm => by have := h.out bm (by simpa using hm); omega), fun z hz => ?_, h.gt, ?_⟩
  · rcases hb with e | ⟨z', e, hz'⟩
    · rw [e] at hz; exact h.out z hz
    · rw [e] at hz; cases hz; omega
  · refine ((h.fr.step f7 (fun x hx => .inr ?_)).step f8 (fun x hx => .inr ?_))
    · simp at hx; have := h.gt; omega
    · have := h.out x (by simpa using hx); have := h.gt; omega
theorem uMapN : Try.prog.underlying 131 = some (.map 3 3) := by kernel_rfl
end Go.Proofs.Ytnggimkkjdipmaa
