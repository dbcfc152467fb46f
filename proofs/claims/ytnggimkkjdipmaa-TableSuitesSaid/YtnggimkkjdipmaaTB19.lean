import Derived.Test.YtnggimkkjdipmaaTB17
import Derived.Test.YtnggimkkjdipmaaTP6
namespace Go.Proofs.Ytnggimkkjdipmaa
open Go.RowKit
set_option linter.unusedVariables false
set_option linter.unusedSimpArgs false
set_option maxHeartbeats 16000000
set_option maxRecDepth 20000
def enumI : Nat → List Int → List (Int × Value)
  | _, [] => []
  | n, k :: ks => (k, .int .i64 (n : Int)) :: enumI (n + 1) ks
theorem enumI_len : ∀ (ks : List Int) (n : Nat), (enumI n ks).length = ks.length
  | [], _ => rfl
  | k :: ks, n => by simp [enumI, enumI_len ks]
theorem enumI_get : ∀ (ks : List Int) (n : Nat) (k : Int), kget (enumI n ks) k = if k ∈ ks then some (.int .i64 ((n + idxK ks k : Nat) : Int)) else none
  | [], _, _ => by simp [enumI, kget]
  | x :: ks, n, k => by
    unfold enumI kget
    by_cases h : x = k
    · subst h; simp [idxK_head]
    · rw [if_neg h, enumI_get ks (n + 1) k]
      by_cases hm : k ∈ ks
      · rw [if_pos hm, if_pos (List.mem_cons_of_mem _ hm), idxK_cons _ _ _ h]
        simp only [Option.some.injEq, Value.int.injEq, true_and]
        omega
      · have hm2 : ¬ k ∈ x :: ks := fun h2 => by
          rcases List.mem_cons.mp h2 with e | e
          · exact h e.symm
          · exact hm e
        rw [if_neg hm, if_neg hm2]
theorem enumI_set : ∀ (ks : List Int) (n : Nat) (k : Int), k ∉ ks → kset (enumI n ks) k (.int .i64 ((n + ks.length : Nat) : Int)) = enumI n (ks ++ [k])
  | [], n, k, _ => by simp [enumI, kset]
  | x :: ks, n, k, h => by
    have h1 : ¬ x = k := fun e => h (by simp [e])
    have h2 : k ∉ ks := fun e => h (by simp [e])
    have := enumI_set ks (n + 1) k h2
    unfold enumI kset
    rw [if_neg h1]
    show _ = (x, _) :: enumI (n + 1) (ks ++ [k])
    rw [← this]
    congr 2
    simp only [List.length_cons]
    congr 1
    congr 1
    omega
theorem uTRows : Try.prog.underlying 71 = some (.slice TRow) := by kernel_rfl
theorem uTRs : Try.prog.underlying 22 = some (.slice 71) := by kernel_rfl
noncomputable def iTRow : TypeInfo := (Try.prog.info? TRow).getD default
theorem infoTRow : Try.prog.info? TRow = some iTRow := by kernel_rfl
noncomputable def zTRow : Value := iTRow.zero.getD default
noncomputable def iTRows : TypeInfo := (Try.prog.info? 71).getD default
theorem infoTRows : Try.prog.info? 71 = some iTRows := by kernel_rfl
noncomputable def zTRows : Value := iTRows.zero.getD default
theorem bytesTRow : iTRow.bytes = 16 := by kernel_rfl
theorem bytesTRows : iTRows.bytes = 24 := by kernel_rfl
/-- One more row of a state. -/
theorem Row.oneTR {w : World} {v : Value} {l : List (Int × Int)} {bo : Option Nat} (h : Row 2 w v l.length (pcells l) bo) (hn : (l.length + 1) * 16 ≤ 140737488355328) (x : Int × Int) :
    ∃ v' w' bo', (Builtin.append_ #[71, 71] 71 #[v, .slice (some ⟨w.heap.size, 0, none⟩) 1 1]).run Try.prog (w.alloc (.cells #[.int .i64 x.1, .int .i64 x.2] TRow)) = .ok v' w' ∧
      Row 2 w' v' (l ++ [x]).length (pcells (l ++ [x])) bo' ∧ (bo' = bo ∨ ∃ z, bo' = some z ∧ w.heap.size ≤ z) ∧ Fr bo.toList w w' := by
  have f1 : Fr [] w (w.alloc (.cells #[.int .i64 x.1, .int .i64 x.2] TRow)) := (Fr.refl [] w).alloc _
  have P1 := Pt.newA w TRow #[.int .i64 x.1, .int .i64 x.2]
  have h1 := h.fr f1 (by simp)
  have hsrc : Src Try.prog 2 71 (.slice (some ⟨w.heap.size, 0, none⟩) 1 1) 1 (pcells [x]) (w.alloc (.cells #[.int .i64 x.1, .int .i64 x.2] TRow)) := Src.ofSlice _ uTRows ⟨w.heap.size, 0, none⟩ 1 1 _ rfl (fun j u hu => by rw [Addr.add_lit, P1.cell, Nat.zero_add]; exact hu) (by intro u hu; simp [pcells] at hu; rcases hu with rfl | rfl <;> rfl)
  obtain ⟨v', w', bo', hrun, hr, hb, hf⟩ := h1.appendW (t := 71) (ty := 71) (e := TRow) (i := iTRow) (z := zTRow) uTRows infoTRow (by kernel_rfl) (by kernel_rfl) (by omega) (by kernel_rfl) hsrc (by omega) (by rw [bytesTRow]; exact hn) (by omega)
  refine ⟨v', w', bo', hrun, ?_, ?_, (f1.mono (by simp)).trans hf⟩
  · rw [pcells_app, List.length_append]; exact hr
  · rcases hb with hb | hb
    · exact .inl hb
    · exact .inr ⟨_, hb, f1.size⟩
/-- One more row of rows. -/
theorem Row.oneTRs {w : World} {v : Value} {l : List Value} {bo : Option Nat} (h : Row 1 w v l.length l bo) (hn : (l.length + 1) * 24 ≤ 140737488355328) (x : Value) (hx : x.oneCell' = true) :
    ∃ v' w' bo', (Builtin.append_ #[22, 22] 22 #[v, .slice (some ⟨w.heap.size, 0, none⟩) 1 1]).run Try.prog (w.alloc (.cells #[x] 71)) = .ok v' w' ∧
      Row 1 w' v' (l ++ [x]).length (l ++ [x]) bo' ∧ (bo' = bo ∨ ∃ z, bo' = some z ∧ w.heap.size ≤ z) ∧ Fr bo.toList w w' := by
  have f1 : Fr [] w (w.alloc (.cells #[x] 71)) := (Fr.refl [] w).alloc _
  have P1 := Pt.newA w 71 #[x]
  have h1 := h.fr f1 (by simp)
  have hsrc : Src Try.prog 1 22 (.slice (some ⟨w.heap.size, 0, none⟩) 1 1) 1 [x] (w.alloc (.cells #[x] 71)) := Src.ofSlice _ uTRs ⟨w.heap.size, 0, none⟩ 1 1 _ rfl (fun j u hu => by rw [Addr.add_lit, P1.cell, Nat.zero_add]; exact hu) (by intro u hu; simp at hu; rw [hu]; exact hx)
  obtain ⟨v', w', bo', hrun, hr, hb, hf⟩ := h1.appendW (t := 22) (ty := 22) (e := 71) (i := iTRows) (z := zTRows) uTRs infoTRows (by kernel_rfl) (by kernel_rfl) (by omega) (by kernel_rfl) hsrc (by omega) (by rw [bytesTRows]; exact hn) (by omega)
  refine ⟨v', w', bo', hrun, ?_, ?_, (f1.mono (by simp)).trans hf⟩
  · rw [List.length_append]; exact hr
  · rcases hb with hb | hb
    · exact .inl hb
    · exact .inr ⟨_, hb, f1.size⟩
/-- least's rows, half done. -/
structure LeI (w : World) (b3 : Nat) (st ev sr : Int) (rows : List (List (Int × Int))) (wr : World) (i : Nat) (r' : Value) (us : List Value) (bo : Option Nat) : Prop where
  p3 : Pt wr b3 TTab [.int .i64 st, .int .i64 ev, .int .i64 sr, r']
  row : Row 1 wr r' us.length us bo
  len : us.length = i
  out : ∀ z, bo = some z → b3 < z
  pin : ∀ k (h : k < us.length) (h2 : k < rows.length), PInB (fun b => b3 < b ∧ b ∉ bo.toList) wr us[k] rows[k]
  fr : Fr [] w wr
theorem LeI.next {w : World} {b3 : Nat} {st ev sr : Int} {rows : List (List (Int × Int))} {wo wr w6 : World} {i : Nat} {r' v5 v6 : Value} {us : List Value} {bo bo2 bo6 : Option Nat}
    (h : LeI w b3 st ev sr rows wo i r' us bo) (hi : i < rows.length) (hw : w.heap.size ≤ b3) (hF : Fr [] wo wr)
    (hrw : Row 2 wr v5 (rows[i]).length (pcells rows[i]) bo2) (hbo2 : ∀ z, bo2 = some z → wo.heap.size ≤ z)
    (hr6 : Row 1 w6 v6 (us ++ [v5]).length (us ++ [v5]) bo6) (hb6 : bo6 = bo ∨ ∃ z, bo6 = some z ∧ wr.heap.size ≤ z) (f6 : Fr bo.toList wr w6) :
    LeI w b3 st ev sr rows (w6.setCell ⟨b3, 3, none⟩ v6) (i + 1) v6 (us ++ [v5]) bo6 := by
  have l3 := h.p3.lt
  have hsz := hF.size
  have fs : Fr [b3] w6 (w6.setCell ⟨b3, 3, none⟩ v6) := (Fr.refl _ _).setCell (by simp) _
  have FA : Fr (b3 :: bo.toList) wo (w6.setCell ⟨b3, 3, none⟩ v6) := ((hF.mono (by simp)).trans (f6.mono (fun x hx => by simp [hx]))).trans (fs.mono (by simp))
  have hbm : ∀ z ∈ bo.toList, b3 < z ∧ z < wo.heap.size := fun z hz => by
    have hz' : bo = some z := by simpa using hz
    have := h.row
    rw [hz'] at this
    exact ⟨h.out z hz', this.lt⟩
  have hb6' : ∀ z, bo6 = some z → b3 < z := fun z hz => by
    rcases hb6 with e | ⟨z', e, h2⟩
    · exact h.out z (by rw [← e]; exact hz)
    · rw [hz] at e; cases e; omega
  have hnew : ∀ b, b < wr.heap.size → b ∉ bo.toList → b ∉ bo6.toList := fun b hb hn hm => by
    have hm' : bo6 = some b := by simpa using hm
    rcases hb6 with e | ⟨z', e, h2⟩
    · exact hn (by rw [← e]; exact hm)
    · rw [hm'] at e; cases e; omega
  refine ⟨(f6.pt (hF.pt h.p3 (by simp)) (fun hm => ?_)).set' rfl, hr6.fr fs (fun z hz hm => ?_), by rw [List.length_append, h.len]; rfl, hb6', fun k hk hk2 => ?_, ?_⟩
  · have := (hbm _ hm).1; omega
  · have := hb6' z hz
    simp at hm; omega
  · by_cases e : k < us.length
    · rw [List.getElem_append_left e]
      refine (h.pin k e hk2).fr FA (fun b hb hq => ⟨fun hm => ?_, hq.1, hnew b (by omega) hq.2⟩)
      rcases List.mem_cons.mp hm with e2 | e2
      · omega
      · exact hq.2 e2
    · have hki : k = us.length := by simp at hk; omega
      have hki2 : k = i := by rw [hki, h.len]
      subst hki2
      rw [List.getElem_append_right (by omega)]
      have : (us ++ [v5])[k]'hk = v5 := by
        rw [List.getElem_append_right (by omega)]; simp [hki]
      have e5 : [v5][k - us.length]'(by simp at hk; simp; omega) = v5 := by simp
      rw [e5]
      have hp : PInB (fun b => wo.heap.size ≤ b) wr v5 rows[k] := hrw.pinb hbo2
      have FB : Fr (b3 :: bo.toList) wr (w6.setCell ⟨b3, 3, none⟩ v6) := (f6.mono (fun x hx => by simp [hx])).trans (fs.mono (by simp))
      refine hp.fr FB (fun b hb hq => ⟨fun hm => ?_, by omega, hnew b hb (fun hm => ?_)⟩)
      · rcases List.mem_cons.mp hm with e2 | e2
        · omega
        · have := (hbm _ e2).2; omega
      · have := (hbm _ hm).2; omega
  · refine h.fr.step FA (fun x hx => .inr ?_)
    rcases List.mem_cons.mp hx with e | e
    · omega
    · have := (hbm _ e).1; omega
theorem LeI.rin {w : World} {b3 : Nat} {st ev sr : Int} {rows : List (List (Int × Int))} {wr w' : World} {r' : Value} {us : List Value} {bo : Option Nat}
    (h : LeI w b3 st ev sr rows wr rows.length r' us bo) {b2 : Nat} (h23 : b2 < b3) (hf : Fr [b2] wr w') : RIn w' r' rows := by
  have hr := h.row.fr hf (fun z hz hm => by have := h.out z hz; simp at hm; omega)
  have hlen := h.len
  have hp : ∀ k (hk : k < us.length) (hk2 : k < rows.length), PIn w' us[k] rows[k] := fun k hk hk2 => ((h.pin k hk hk2).fr (q' := fun _ => True) hf (fun b _ hq => ⟨fun hm => by have := hq.1; simp at hm; omega, trivial⟩)).pin
  rcases hr with ⟨_, h2, _, o, rfl⟩ | ⟨b, off, cap, hb, rfl, h3, h4, _, _, h7⟩
  · exact ⟨o, 0, by rw [← hlen, h2], fun i hi => by omega⟩
  · refine ⟨_, cap, by rw [hlen], fun i hi => ⟨b, off, us[i]'(by omega), rfl, h4, ?_, hp i (by omega) hi⟩⟩
    rw [h7 i (by omega), List.getElem?_eq_getElem (by omega)]

theorem LeI.rinb {w : World} {b3 : Nat} {st ev sr : Int} {rows : List (List (Int × Int))} {wr w' : World} {r' : Value} {us : List Value} {bo : Option Nat}
    (h : LeI w b3 st ev sr rows wr rows.length r' us bo) {b2 : Nat} (h23 : b2 < b3) (hf : Fr [b2] wr w') : RInB (fun b => b3 < b) w' r' rows := by
  have hr := h.row.fr hf (fun z hz hm => by have := h.out z hz; simp at hm; omega)
  have hlen := h.len
  have hp : ∀ k (hk : k < us.length) (hk2 : k < rows.length), PInB (fun b => b3 < b) w' us[k] rows[k] := fun k hk hk2 => ((h.pin k hk hk2).fr hf (fun b _ hq => ⟨fun hm => by have := hq.1; simp at hm; omega, hq.1⟩))
  rcases hr with ⟨_, h2, _, o, rfl⟩ | ⟨b, off, cap, hb, rfl, h3, h4, _, _, h7⟩
  · exact ⟨o, 0, by rw [← hlen, h2], fun i hi => by omega⟩
  · refine ⟨_, cap, by rw [hlen], fun i hi => ⟨b, off, us[i]'(by omega), rfl, h4, h.out b hb, ?_, hp i (by omega) hi⟩⟩
    rw [h7 i (by omega), List.getElem?_eq_getElem (by omega)]
/-- least's first round, half done. -/
structure LsI (wb : World) (bm : Nat) (cls mem : List Int) (wr : World) (mv : Value) (bo : Option Nat) : Prop where
  row : Row 1 wr mv mem.length (ints mem) bo
  mp : MapK intK wr bm (enumI 0 (mem.map (gI cls)))
  out : ∀ z, bo = some z → bm < z
  gt : wb.heap.size ≤ bm
  fr : Fr [] wb wr
theorem LsI.step {wb : World} {bm : Nat} {cls mem : List Int} {wr : World} {mv : Value} {bo : Option Nat} (h : LsI wb bm cls mem wr mv bo) {s : Int} {w7 w8 : World} {v' : Value} {bo' : Option Nat}
    (M : MapK intK w7 bm (enumI 0 ((mem ++ [s]).map (gI cls)))) (f7 : Fr [bm] wr w7) (hr : Row 1 w8 v' (mem ++ [s]).length (ints (mem ++ [s])) bo') (hb : bo' = bo ∨ ∃ z, bo' = some z ∧ w7.heap.size ≤ z) (f8 : Fr bo.toList w7 w8) :
    LsI wb bm cls (mem ++ [s]) w8 v' bo' := by
  have l1 := h.mp.lt
  have s7 := f7.size
  refine ⟨hr, M.fr f8 (fun hm => by have := h.out bm (by simpa using hm); omega), fun z hz => ?_, h.gt, ?_⟩
  · rcases hb with e | ⟨z', e, hz'⟩
    · rw [e] at hz; exact h.out z hz
    · rw [e] at hz; cases hz; omega
  · refine ((h.fr.step f7 (fun x hx => .inr ?_)).step f8 (fun x hx => .inr ?_))
    · simp at hx; have := h.gt; omega
    · have := h.out x (by simpa using hx); have := h.gt; omega
theorem uMapN : Try.prog.underlying 131 = some (.map 3 3) := by kernel_rfl
end Go.Proofs.Ytnggimkkjdipmaa
namespace Go.Proofs.Ytnggimkkjdipmaa
open Go.RowKit
set_option linter.unusedVariables false
set_option linter.unusedSimpArgs false
set_option maxHeartbeats 16000000
set_option maxRecDepth 100000
/-- .. the row of rows may be written. -/
theorem least_own (T : Tb) (v : Value) (w : World) (hT : TIn w v T) (hV : VT T) :
    Calls Try.prog 67 #[v] w fun e w' => ∃ r', e = .returned (.agg #[.int .i64 (leastT T).st, .int .i64 (leastT T).ev, .int .i64 (leastT T).sr, r']) ∧ (RInB (fun b => w.heap.size ≤ b) w' r' (leastT T).rows ∧ ∃ us bo, Row 1 w' r' us.length us bo ∧ us.length = (leastT T).rows.length ∧ ∀ z, bo = some z → w.heap.size ≤ z) ∧ Fr [] w w' := by
  obtain ⟨r, rfl, hR⟩ := hT
  have hval : T.val r = .agg #[.int .i64 T.st, .int .i64 T.ev, .int .i64 T.sr, r] := rfl
  rw [hval]
  have hst := hV.st; have hrl := hV.rows; have hev := hV.ev
  have hlen30 := hV.le30
  have CL : ∀ W, Fr [] w W → Calls Try.prog 90 #[.agg #[.int .i64 T.st, .int .i64 T.ev, .int .i64 T.sr, r]] W fun e w' => ∃ v', e = .returned v' ∧ NIn w' v' (classes T) ∧ Fr [] W w' := fun W f => classes_any T _ W ⟨r, rfl, hR.fr f⟩ hV
  have WA : ∀ W, Fr [] w W → Calls Try.prog 75 #[.agg #[.int .i64 T.st, .int .i64 T.ev, .int .i64 T.sr, r]] W fun e w' => ∃ ov mv, e = .returned (.tuple #[ov, mv]) ∧ NIn w' ov (orderT T) ∧ WOk T (walkT T) ∧ Fr [] W w' := fun W f => (walk_any T _ W ⟨r, rfl, hR.fr f⟩ hV).mono (fun e w' h => by
    obtain ⟨r', bt, bm, ov, bo, M, h1, h2, h3⟩ := h
    exact ⟨_, _, h1, h2.ord.nin, h3, h2.fr⟩)
  obtain ⟨cls, hcls⟩ : ∃ c, classes T = c := ⟨_, rfl⟩
  obtain ⟨ord, hord⟩ : ∃ c, orderT T = c := ⟨_, rfl⟩
  have hcl : (cls.length : Int) = T.st := by
    obtain ⟨n, hC⟩ := classes_ok hV
    rw [hcls] at hC
    have := hC.len; omega
  rw [hcls] at CL; rw [hord] at WA
  obtain ⟨w1, hw1⟩ : ∃ x, w.alloc (.cells #[.int .i64 T.st, .int .i64 T.ev, .int .i64 T.sr, r] TTab) = x := ⟨_, rfl⟩
  have P1 := Pt.newA w TTab #[.int .i64 T.st, .int .i64 T.ev, .int .i64 T.sr, r]
  rw [hw1] at P1
  have F1 : Fr [] w w1 := by rw [← hw1]; exact (Fr.refl [] w).alloc _
  obtain ⟨b1, hb1⟩ : ∃ x, w.heap.size = x := ⟨_, rfl⟩
  rw [hb1] at P1
  obtain ⟨w2, hw2⟩ : ∃ x, w1.alloc (.cells #[.int .i64 0, .int .i64 0, .int .i64 0, .slice none 0 0] TTab) = x := ⟨_, rfl⟩
  have P2 := Pt.newA w1 TTab #[.int .i64 0, .int .i64 0, .int .i64 0, .slice none 0 0]
  rw [hw2] at P2
  have F2 : Fr [] w1 w2 := by rw [← hw2]; exact (Fr.refl [] w1).alloc _
  obtain ⟨b2, hb2⟩ : ∃ x, w1.heap.size = x := ⟨_, rfl⟩
  rw [hb2] at P2
  have l1 := P1.lt
  have lt12 : b1 < b2 := by omega
  have l2 := P2.lt
  have PA1 := F2.pt P1 (by simp)
  have FA := F1.trans F2
  have k1 := PA1.cell
  replace PA1 := Lib.hid PA1; replace P1 := Lib.hid P1; replace P2 := Lib.hid P2; replace F1 := Lib.hid F1; replace F2 := Lib.hid F2; replace FA := Lib.hid FA; replace CL := Lib.hid CL; replace WA := Lib.hid WA; replace hcls := Lib.hid hcls; replace hord := Lib.hid hord; replace hcl := Lib.hid hcl
  clear hval
  go_enter Try.func67, Try.ntmps67
  go_wp2_with fail
  refine (CL.out _ FA.out).mono ?_
  rintro e w3 ⟨cv, rfl, hcv, f3⟩
  have FB := FA.out.trans f3
  have k3 := (f3.pt PA1.out (by simp)).cell
  clear k1
  replace hcv := Lib.hid hcv; replace f3 := Lib.hid f3; replace FB := Lib.hid FB
  go_wp2_with fail
  refine (WA.out _ FB.out).mono ?_
  rintro e w4 ⟨ov, mv, rfl, hov, hOK, f4⟩
  have hcv4 := hcv.out.fr f4
  have FC := FB.out.trans f4
  have PC1 := f4.pt (f3.out.pt PA1.out (by simp)) (by simp)
  have PC2 := f4.pt (f3.out.pt P2.out (by simp)) (by simp)
  have hmm := run_makeMap (P := Try.prog) 131 w4
  have Mm := MapK.made intK w4
  have Fm : Fr [] w4 (w4.alloc (.map #[] 0)) := (Fr.refl [] w4).alloc _
  obtain ⟨wm, hwm⟩ : ∃ x, w4.alloc (.map #[] 0) = x := ⟨_, rfl⟩
  rw [hwm] at hmm Mm Fm
  obtain ⟨bm, hbm⟩ : ∃ x, w4.heap.size = x := ⟨_, rfl⟩
  rw [hbm] at hmm Mm
  have I0 : LsI w4 bm cls [] wm (.slice none 0 0) none := ⟨Row.nil 1 _ none, Mm, by simp, by omega, Fm⟩
  obtain ⟨oo, co, rfl, ho⟩ := hov
  obtain ⟨oc, nc, cc, rfl, hnc, hc⟩ : ∃ oc nc cc, cv = .slice oc nc cc ∧ (nc : Int) = T.st ∧ ∀ i (h : i < cls.length), ∃ b off, oc = some ⟨b, off, none⟩ ∧ b < w4.heap.size ∧ w4.cell? ⟨b, off + i, none⟩ = some (.int .i64 cls[i]) := by
    obtain ⟨oc, cc, e, h⟩ := hcv4
    exact ⟨oc, _, cc, e, hcl.out, h⟩
  clear k3 hwm
  have hbm' := Lib.hid hbm
  replace I0 := Lib.hid I0; replace f4 := Lib.hid f4; replace FC := Lib.hid FC; replace PC1 := Lib.hid PC1; replace PC2 := Lib.hid PC2; replace Mm := Lib.hid Mm; replace Fm := Lib.hid Fm; replace ho := Lib.hid ho; replace hc := Lib.hid hc; replace hnc := Lib.hid hnc
  have hol : ord.length ≤ 30 := by
    rw [← hord.out, orderT, List.length_map]; have := hOK.le; omega
  have hor : ∀ x ∈ ord, 0 ≤ x ∧ x < T.st := by
    intro x hx
    rw [← hord.out, orderT] at hx
    obtain ⟨y, hy, rfl⟩ := List.mem_map.mp hx
    exact hOK.rng y hy
  replace hOK := Lib.hid hOK
  replace hor := Lib.hid hor
  go_wp2_with fail
  clear hmm hbm
  go_loopg [7, 28] (ord.length + 1) (fun k v7 v28 wr => ∃ (i : Nat) (bo : Option Nat), i ≤ ord.length ∧ k + i = ord.length + 1 ∧ v28 = .int .i64 i ∧ LsI w4 bm cls (memF cls (ord.take i) []) wr v7 bo)
  case atStart => exact ⟨0, _, by omega, by omega, rfl, I0.out⟩
  case round =>
    obtain ⟨i, bo, hi, hk, rfl, hI⟩ := hrel
    by_cases hlt : i < ord.length
    · have hltI : (i : Int) < ord.length := by omega
      obtain ⟨bo', oo', e0, hbo', cO⟩ := ho.out i hlt
      subst e0
      have cO := hI.fr.cell (p := ⟨bo', oo' + i, none⟩) hbo' (by simp) ▸ cO
      have hsr := hor.out _ (List.getElem_mem hlt)
      have hmt := memF_take cls ord i hlt
      have hml := memF_len cls (ord.take i) []
      obtain ⟨mem, hmem⟩ : ∃ m, memF cls (ord.take i) [] = m := ⟨_, rfl⟩
      rw [hmem] at hI hmt hml
      have hml2 : mem.length ≤ 30 := by rw [List.length_take] at hml; simp at hml; omega
      obtain ⟨s0, hs0⟩ : ∃ x, ord[i] = x := ⟨_, rfl⟩
      rw [hs0] at hsr hmt
      have cO' : wr.cell? ⟨bo', oo' + i, none⟩ = some (.int .i64 s0) := by rw [hI.fr.cell (p := ⟨bo', oo' + i, none⟩) hbo' (by simp)]; obtain ⟨_, _, e, _, h⟩ := ho.out i hlt; cases e; rw [h, hs0]
      clear cO
      obtain ⟨s, rfl⟩ : ∃ s : Nat, s0 = s := ⟨s0.toNat, by omega⟩
      have hsc : s < cls.length := by have := hcl.out; omega
      have hscI : (s : Int) < (nc : Int) := by have := hnc.out; omega
      obtain ⟨bc, offc, rfl, hbc, hci⟩ := hc.out s hsc
      obtain ⟨ci, hcie⟩ : ∃ x, cls[s] = x := ⟨_, rfl⟩
      rw [hcie] at hci
      have hgi : gI cls (s : Int) = ci := by
        unfold gI
        rw [List.getD_eq_getElem?_getD, show ((s : Nat) : Int).toNat = s by omega, List.getElem?_eq_getElem hsc, hcie]; rfl
      rw [hgi] at hmt
      have cC := hI.fr.cell (p := ⟨bc, offc + s, none⟩) hbc (by simp)
      rw [hci] at cC
      have LO := hI.mp.lookOk (P := Try.prog) (t := 131) uMapN uInt isKey_intK intK_inj (zInt_run _) ci
      rw [enumI_get] at LO
      simp only [intK] at LO
      obtain ⟨keys, hkeys⟩ : ∃ x, mem.map (gI cls) = x := ⟨_, rfl⟩
      have hkl : keys.length = mem.length := by rw [← hkeys, List.length_map]
      rw [hkeys] at LO hmt
      replace hsr := Lib.hid hsr; replace hgi := Lib.hid hgi; replace hcie := Lib.hid hcie; replace hmem := Lib.hid hmem; replace hs0 := Lib.hid hs0; replace hml := Lib.hid hml; replace hci := Lib.hid hci
      by_cases hm : ci ∈ keys
      · rw [if_pos hm] at LO hmt
        simp only [Option.getD_some, Option.isSome_some, Nat.zero_add] at LO
        rw [← hmt] at hI
        replace hI := Lib.hid hI; replace hmt := Lib.hid hmt; replace hm := Lib.hid hm; replace hkeys := Lib.hid hkeys; replace hkl := Lib.hid hkl
        go_wp2_with fail
        go_roundg (gk - 1)
        case measure => omega
        case rel => exact ⟨i + 1, _, by omega, by omega, by go_num, hI.out⟩
      · rw [if_neg hm] at LO hmt
        simp only [Option.getD_none, Option.isSome_none] at LO
        obtain ⟨ob, n7, cb, rfl, hn7⟩ : ∃ ob n cb, u7 = .slice ob n cb ∧ n = mem.length := by
          obtain ⟨ob, cb, e⟩ := hI.row.len
          exact ⟨ob, _, cb, e, rfl⟩
        obtain ⟨w7, UP, M7, f7⟩ := hI.mp.update (P := Try.prog) (t := 131) uMapN uInt isKey_intK intK_inj ci (.int .i64 (n7 : Int))
        have hks := enumI_set keys 0 ci hm
        rw [Nat.zero_add, hkl, ← hn7] at hks
        rw [hkeys, hks, ← hkeys, ← hgi.out, show mem.map (gI cls) ++ [gI cls (s : Int)] = (mem ++ [(s : Int)]).map (gI cls) by simp] at M7
        simp only [intK] at UP
        have lm := hI.mp.lt
        obtain ⟨v8, w8, bo8, happ, hr8, hb8, f8⟩ := (hI.row.fr f7 (fun z hz => by have := hI.out z hz; simp; omega)).one (by omega) (s : Int)
        have NX := hI.step M7 f7 hr8 hb8 f8
        rw [← hmt] at NX
        replace hn7 := Lib.hid hn7
        replace NX := Lib.hid NX; replace happ := Lib.hid happ; replace hr8 := Lib.hid hr8; replace hb8 := Lib.hid hb8; replace f8 := Lib.hid f8; replace f7 := Lib.hid f7; replace M7 := Lib.hid M7; replace hI := Lib.hid hI; replace hmt := Lib.hid hmt; replace hm := Lib.hid hm; replace hkeys := Lib.hid hkeys; replace hkl := Lib.hid hkl; replace hks := Lib.hid hks
        go_wp2_with (first | (at_builtin; refine wpList_append_run _ rfl _ _ _ rfl rfl rfl happ.out ?_))
        go_roundg (gk - 1)
        case measure => omega
        case rel => exact ⟨i + 1, _, by omega, by omega, by go_num, NX.out⟩
    · have hltI : ¬ (i : Int) < ord.length := by omega
      rw [List.take_of_length_le (by omega)] at hI
      obtain ⟨mem, hmem⟩ : ∃ m, memF cls ord [] = m := ⟨_, rfl⟩
      have hml := memF_len cls ord []
      have hmm := memF_mem cls ord []
      rw [hmem] at hI hml hmm
      have hml2 : mem.length ≤ 30 := by simp at hml; omega
      have hmr : ∀ x ∈ mem, 0 ≤ x ∧ x < T.st := fun x hx => by
        rcases hmm x hx with h | h
        · simp at h
        · exact hor.out x h
      obtain ⟨wq, rfl⟩ : ∃ x : World, x = wr := ⟨_, rfl⟩
      obtain ⟨o, cap, rfl, hl⟩ := hR
      have FQ := FC.out.trans hI.fr
      have kq := (hI.fr.pt PC1.out (by simp)).cell
      have PQ1 := hI.fr.pt PC1.out (by simp)
      have PQ2 := hI.fr.pt PC2.out (by simp)
      have hmn := hI.row.nin
      obtain ⟨om, nm, cm, rfl, hnm, hmc⟩ : ∃ om nm cm, u7 = .slice om nm cm ∧ nm = mem.length ∧ ∀ i (h : i < mem.length), ∃ b off, om = some ⟨b, off, none⟩ ∧ b < wq.heap.size ∧ wq.cell? ⟨b, off + i, none⟩ = some (.int .i64 mem[i]) := by
        obtain ⟨om, cm, e, h⟩ := hmn
        exact ⟨om, _, cm, e, rfl, h⟩
      obtain ⟨g, hg⟩ : ∃ g, leastR cls (mem.map (gI cls)) = g := ⟨_, rfl⟩
      obtain ⟨tgt, htgt⟩ : ∃ t, (mem.map fun s => (T.rows.getD s.toNat []).map g) = t := ⟨_, rfl⟩
      have htl : tgt.length = nm := by rw [← htgt, List.length_map, hnm]
      have hlr : leastRows T = tgt := by
        unfold leastRows mems; rw [hcls.out, hord.out, hmem, hg, htgt]
      have hms : mems T = mem := by unfold mems; rw [hcls.out, hord.out, hmem]
      obtain ⟨w5, hw5⟩ : ∃ x, wq.alloc (.cells #[.int .i64 nm, .int .i64 T.ev, .int .i64 0, .slice none 0 0] TTab) = x := ⟨_, rfl⟩
      have P5 := Pt.newA wq TTab #[.int .i64 nm, .int .i64 T.ev, .int .i64 0, .slice none 0 0]
      rw [hw5] at P5
      have F5 : Fr [] wq w5 := by rw [← hw5]; exact (Fr.refl [] wq).alloc _
      obtain ⟨b3, hb3⟩ : ∃ x, wq.heap.size = x := ⟨_, rfl⟩
      rw [hb3] at P5
      have lq2 := PQ2.lt
      have lt23 : b2 < b3 := by omega
      have hqb : wq.heap.size ≤ b3 := by omega
      have L0 : LeI wq b3 nm T.ev 0 tgt w5 0 (.slice none 0 0) [] none := ⟨P5, Row.nil 1 _ none, rfl, by simp, by simp, F5⟩
      have hw5' := Lib.hid hw5
      have hb3' := Lib.hid hb3
      clear hw5 hmn
      replace L0 := Lib.hid L0; replace P5 := Lib.hid P5; replace F5 := Lib.hid F5; replace hI := Lib.hid hI; replace hmem := Lib.hid hmem; replace hml := Lib.hid hml; replace hmm := Lib.hid hmm; replace hmr := Lib.hid hmr; replace hl := Lib.hid hl; replace FQ := Lib.hid FQ; replace PQ1 := Lib.hid PQ1; replace PQ2 := Lib.hid PQ2; replace hmc := Lib.hid hmc; replace hg := Lib.hid hg; replace htgt := Lib.hid htgt; replace hlr := Lib.hid hlr; replace hms := Lib.hid hms; replace hnm := Lib.hid hnm; replace htl := Lib.hid htl
      go_wp2_with fail
      try rw [hw5'.out]
      clear kq hb3
      go_loopg [62] (nm + 1) (fun k v62 wr => ∃ (i : Nat) (r' : Value) (us : List Value) (bo : Option Nat), i ≤ nm ∧ k + i = nm + 1 ∧ v62 = .int .i64 i ∧ LeI wq b3 nm T.ev 0 tgt wr i r' us bo)
      case atStart => exact ⟨0, _, _, _, by omega, by omega, rfl, L0.out⟩
      case round =>
        obtain ⟨i, r', us, bo, hi, hk, rfl, hJ⟩ := hrel
        by_cases hlt : i < nm
        · have hltI : (i : Int) < nm := by omega
          have hlm : i < mem.length := by have := hnm.out; omega
          obtain ⟨bq, oq, rfl, hbq, cM⟩ := hmc.out i hlm
          have hsr := hmr.out _ (List.getElem_mem hlm)
          have cMr := hJ.fr.cell (p := ⟨bq, oq + i, none⟩) hbq (by simp)
          rw [cM] at cMr
          obtain ⟨s0, hs0⟩ : ∃ x, mem[i] = x := ⟨_, rfl⟩
          rw [hs0] at hsr cMr
          obtain ⟨s, rfl⟩ : ∃ s : Nat, s0 = s := ⟨s0.toNat, by omega⟩
          have hsl : s < T.rows.length := by omega
          have hslI : (s : Int) < T.rows.length := by omega
          obtain ⟨B, off, u, rfl, hB, hcB, o2, cap2, rfl, hu⟩ := hl.out s hsl
          have cB := (FQ.out.trans hJ.fr).cell (p := ⟨B, off + s, none⟩) hB (by simp)
          rw [hcB] at cB
          obtain ⟨row, hrow⟩ : ∃ row, T.rows[s] = row := ⟨_, rfl⟩
          have hrl2 := hV.row _ (List.getElem_mem hsl)
          have hcells := hV.cell _ (List.getElem_mem hsl)
          rw [hrow] at hu hrl2 hcells cB
          have hrow12 : row.length ≤ 12 := by omega
          have htg : ∀ h : i < tgt.length, tgt[i]'h = row.map g := fun h => by
            have e := htgt.out
            subst e
            rw [List.getElem_map, hs0, List.getD_eq_getElem?_getD, show ((s : Nat) : Int).toNat = s by omega, List.getElem?_eq_getElem hsl, hrow]; rfl
          have kt := (hJ.fr.pt PQ1.out (by simp)).cell
          obtain ⟨wo, rfl⟩ : ∃ wo : World, wo = wr := ⟨_, rfl⟩
          obtain ⟨gq, rfl⟩ : ∃ g : Nat, g = gk := ⟨_, rfl⟩
          replace hu := Lib.hid hu; replace hrl2 := Lib.hid hrl2; replace hcells := Lib.hid hcells; replace hJ := Lib.hid hJ; replace hrow := Lib.hid hrow; replace hs0 := Lib.hid hs0; replace hcB := Lib.hid hcB; replace htg := Lib.hid htg; replace cM := Lib.hid cM; replace hsr := Lib.hid hsr
          go_wp2_with fail
          clear kt cMr cB
          go_loopg [15, 72] (row.length + 1) (fun k v15 v72 wi => ∃ (j : Nat) (bo2 : Option Nat), j ≤ row.length ∧ k + j = row.length + 1 ∧ v72 = .int .i64 j ∧ Row 2 wi v15 ((row.take j).map g).length (pcells ((row.take j).map g)) bo2 ∧ (∀ z, bo2 = some z → wo.heap.size ≤ z) ∧ Fr [] wo wi)
          case atStart => exact ⟨0, none, by omega, by omega, rfl, Row.nil 2 _ none, by simp, Fr.refl _ _⟩
          case round =>
            obtain ⟨j, bo2, hj, hk2, rfl, hrw, hbo2, hF⟩ := hrel
            have FF := hJ.out.fr.trans hF
            by_cases hltj : j < row.length
            · have hltJ : (j : Int) < row.length := by omega
              obtain ⟨B2, off2, rfl, hB2, ha, hb⟩ := hu.out j hltj
              have hce := hcells.out _ (List.getElem_mem hltj)
              have hsn : (row.take (j + 1)).map g = (row.take j).map g ++ [g row[j]] := by rw [List.take_succ_eq_append_getElem hltj, List.map_append]; rfl
              obtain ⟨⟨x1, x2⟩, hx⟩ : ∃ x, row[j] = x := ⟨_, rfl⟩
              rw [hx] at ha hb hce hsn
              dsimp only at ha hb hce
              have FW := FQ.out.trans FF
              have ca := FW.cell (p := ⟨B2, off2 + j * 2, none⟩) hB2 (by simp)
              rw [ha] at ca
              have cb := FW.cell (p := ⟨B2, off2 + j * 2 + 1, none⟩) hB2 (by simp)
              rw [hb] at cb
              have hjl : ((row.take j).map g).length = j := by rw [List.length_map, List.length_take]; omega
              obtain ⟨w6, hw6⟩ : ∃ x, wr.alloc (.cells #[.int .i64 x1, .int .i64 x2] TRow) = x := ⟨_, rfl⟩
              have P6 := Pt.newA wr TRow #[.int .i64 x1, .int .i64 x2]
              rw [hw6] at P6
              have F6 : Fr [] wr w6 := by rw [← hw6]; exact (Fr.refl [] wr).alloc _
              obtain ⟨bx, hbx⟩ : ∃ x, wr.heap.size = x := ⟨_, rfl⟩
              rw [hbx] at P6
              have hbo2x : ∀ z, bo2 = some z → z < bx := fun z hz => by have h := hrw; rw [hz] at h; have := h.lt; omega
              have k6 := P6.cell
              obtain ⟨hc1, hc2, hc3, hc4, hc5⟩ := hce
              clear ha hb
              have hwx : wo.heap.size ≤ bx := by rw [← hbx]; exact hF.size
              obtain ⟨oz, nz, cz, rfl, hnz⟩ : ∃ oz nz cz, u15 = .slice oz nz cz ∧ nz = ((row.take j).map g).length := by
                obtain ⟨oz, cz, e⟩ := hrw.len
                exact ⟨oz, _, cz, e, rfl⟩
              by_cases hneg : x1 < 0
              · have hge : ¬ 0 ≤ x1 := by omega
                have hgx : g (x1, x2) = (x1, x2) := by rw [← hg.out]; unfold leastR; rw [if_neg hge]
                rw [hgx] at hsn
                obtain ⟨v', w8, bo3, happ, hrw8, hbo3, f8⟩ := (hrw.fr F6 (by simp)).oneTR (by rw [hjl]; omega) (x1, x2)
                rw [← hsn] at hrw8
                have hbo3' : ∀ z, bo3 = some z → wo.heap.size ≤ z := fun z hz => by
                  rcases hbo3 with h | ⟨z', h, h2⟩
                  · exact hbo2 z (by rw [← h]; exact hz)
                  · rw [hz] at h; cases h
                    have := hF.size; have := F6.size; omega
                have F8 : Fr [] wo w8 := (hF.trans F6).step f8 (fun z hz => .inr (hbo2 z (by simpa using hz)))
                dsimp only at happ
                replace hnz := Lib.hid hnz
                replace happ := Lib.hid happ; replace hrw8 := Lib.hid hrw8; replace hbo3 := Lib.hid hbo3; replace hbo3' := Lib.hid hbo3'; replace F8 := Lib.hid F8; replace f8 := Lib.hid f8; replace hsn := Lib.hid hsn; replace hrw := Lib.hid hrw; replace hbo2 := Lib.hid hbo2; replace hF := Lib.hid hF; replace hx := Lib.hid hx; replace hjl := Lib.hid hjl; replace FF := Lib.hid FF; replace FW := Lib.hid FW; replace F6 := Lib.hid F6; replace P6 := Lib.hid P6; replace hgx := Lib.hid hgx; replace hbo2x := Lib.hid hbo2x; replace hc5 := Lib.hid hc5
                go_wp2_with (first | (at_builtin; refine wpList_append_run _ rfl _ _ _ rfl rfl rfl happ.out ?_))
                go_roundg (gk - 1)
                case measure => omega
                case rel => exact ⟨j + 1, bo3, by omega, by omega, by go_num, hrw8.out, hbo3'.out, F8.out⟩
              · have hge : 0 ≤ x1 := by omega
                obtain ⟨k', rfl⟩ : ∃ k' : Nat, x1 = k' := ⟨x1.toNat, by omega⟩
                have hkc : k' < cls.length := by have := hcl.out; omega
                have hkcI : (k' : Int) < (nc : Int) := by have := hnc.out; omega
                obtain ⟨bc, offc, rfl, hbc, hci⟩ := hc.out k' hkc
                obtain ⟨ci, hcie⟩ : ∃ x, cls[k'] = x := ⟨_, rfl⟩
                rw [hcie] at hci
                have hgi : gI cls (k' : Int) = ci := by
                  unfold gI
                  rw [List.getD_eq_getElem?_getD, show ((k' : Nat) : Int).toNat = k' by omega, List.getElem?_eq_getElem hkc, hcie]; rfl
                have F46 := hI.out.fr.trans (FF.trans F6)
                have cC := F46.cell (p := ⟨bc, offc + k', none⟩) hbc (by simp)
                rw [hci] at cC
                have LK := (hI.out.mp.fr (FF.trans F6) (by simp)).look (P := Try.prog) (t := 131) uMapN uInt isKey_intK intK_inj (zInt_run _) ci
                rw [enumI_get] at LK
                simp only [intK] at LK
                obtain ⟨y, hy⟩ : ∃ y : Int, (if ci ∈ mem.map (gI cls) then ((mem.map (gI cls)).idxOf ci : Int) else 0) = y := ⟨_, rfl⟩
                have hyv : (if ci ∈ mem.map (gI cls) then some (Value.int IntKind.i64 ((0 + idxK (mem.map (gI cls)) ci : Nat) : Int)) else none).getD (Value.int IntKind.i64 0) = .int .i64 y := by
                  rw [← hy]; split
                  · simp [idxK]
                  · rfl
                rw [hyv] at LK
                have hgx : g ((k' : Int), x2) = (y, x2) := by rw [← hg.out]; unfold leastR; rw [if_pos hge]; dsimp only; rw [hgi, hy]
                rw [hgx] at hsn
                have z6 := P6.free
                obtain ⟨w7, hw7⟩ : ∃ x, w6.setCell ⟨bx, 0, none⟩ (.int .i64 y) = x := ⟨_, rfl⟩
                have P7 : Pt w7 bx TRow [.int .i64 y, .int .i64 x2] := by rw [← hw7]; exact P6.set' rfl
                have F67 : Fr [bx] w6 w7 := by rw [← hw7]; exact (Fr.refl _ _).setCell (by simp) _
                have k7 := P7.cell
                have FR7 : Fr [bx] wr w7 := (F6.mono (by simp)).trans F67
                obtain ⟨v', w8, bo3, happ, hrw8, hbo3, f8⟩ := (hrw.fr FR7 (fun z hz => by have := hbo2x z hz; simp; omega)).oneTR (by rw [hjl]; omega) (y, x2)
                rw [← hsn] at hrw8
                have F7 : Fr [] wo w7 := hF.step FR7 (fun z hz => .inr (by simp at hz; omega))
                have hbo3' : ∀ z, bo3 = some z → wo.heap.size ≤ z := fun z hz => by
                  rcases hbo3 with h | ⟨z', h, h2⟩
                  · exact hbo2 z (by rw [← h]; exact hz)
                  · rw [hz] at h; cases h
                    have := F7.size; omega
                have F8 : Fr [] wo w8 := F7.step f8 (fun z hz => .inr (hbo2 z (by simpa using hz)))
                dsimp only at happ
                replace hnz := Lib.hid hnz
                replace happ := Lib.hid happ; replace hrw8 := Lib.hid hrw8; replace hbo3 := Lib.hid hbo3; replace hbo3' := Lib.hid hbo3'; replace F8 := Lib.hid F8; replace f8 := Lib.hid f8; replace hsn := Lib.hid hsn; replace hrw := Lib.hid hrw; replace hbo2 := Lib.hid hbo2; replace hF := Lib.hid hF; replace hx := Lib.hid hx; replace hjl := Lib.hid hjl; replace FF := Lib.hid FF; replace FW := Lib.hid FW; replace F6 := Lib.hid F6; replace P6 := Lib.hid P6; replace hgx := Lib.hid hgx; replace hbo2x := Lib.hid hbo2x; replace hc5 := Lib.hid hc5; replace hci := Lib.hid hci; replace hcie := Lib.hid hcie; replace hgi := Lib.hid hgi; replace F46 := Lib.hid F46; replace hy := Lib.hid hy; replace hyv := Lib.hid hyv; replace P7 := Lib.hid P7; replace F67 := Lib.hid F67; replace FR7 := Lib.hid FR7; replace F7 := Lib.hid F7
                go_wp2_with (first | (at_builtin; refine wpList_append_run _ rfl _ _ _ rfl rfl rfl happ.out ?_))
                go_roundg (gk - 1)
                case measure => omega
                case rel => exact ⟨j + 1, bo3, by omega, by omega, by go_num, hrw8.out, hbo3'.out, F8.out⟩
            · have hltJ : ¬ (j : Int) < row.length := by omega
              have hjr : row.take j = row := List.take_of_length_le (by omega)
              rw [hjr] at hrw
              have hlen := hJ.out.len
              obtain ⟨oz, nz, cz, rfl, hnz⟩ : ∃ oz nz cz, u15 = .slice oz nz cz ∧ nz = (row.map g).length := by
                obtain ⟨oz, cz, e⟩ := hrw.len
                exact ⟨oz, _, cz, e, rfl⟩
              obtain ⟨v6, w6, bo6, happ, hr6, hb6, f6⟩ := (hJ.out.row.fr hF (by simp)).oneTRs (by rw [hlen]; omega) (.slice oz nz cz) rfl
              obtain ⟨o6, c6, rfl⟩ := hr6.len
              have p3 := hF.pt hJ.out.p3 (by simp)
              have c3 := p3.cell
              have hb3n : b3 ∉ bo.toList := fun hm => by have := hJ.out.out b3 (by simpa using hm); omega
              have p36 := f6.pt p3 hb3n
              have c36 := p36.cell
              have z36 := p36.free
              have hti : i < tgt.length := by rw [htl.out]; exact hlt
              have NX := hJ.out.next hti hqb hF (by rw [htg.out hti]; exact hrw) hbo2 hr6 hb6 f6
              simp only [List.length_append, List.length_cons, List.length_nil, Nat.zero_add] at NX happ
              replace hnz := Lib.hid hnz
              replace NX := Lib.hid NX; replace happ := Lib.hid happ; replace hr6 := Lib.hid hr6; replace hb6 := Lib.hid hb6; replace f6 := Lib.hid f6; replace p3 := Lib.hid p3; replace p36 := Lib.hid p36; replace hb3n := Lib.hid hb3n; replace hlen := Lib.hid hlen; replace hrw := Lib.hid hrw; replace hjr := Lib.hid hjr; replace hbo2 := Lib.hid hbo2; replace hF := Lib.hid hF; replace FF := Lib.hid FF
              go_wp2_with (first | (at_builtin; refine wpList_append_run _ rfl _ _ _ rfl rfl rfl happ.out ?_))
              go_roundg (gq - 1)
              case measure => omega
              case rel => exact ⟨i + 1, _, _, _, by omega, by omega, by go_num, NX.out⟩
        · have hltI : ¬ (i : Int) < nm := by omega
          have hie : i = nm := by omega
          subst hie
          obtain ⟨oe, ce, rfl⟩ := hJ.row.len
          have c3 := hJ.p3.cell
          have p2 := hJ.fr.pt PQ2.out (by simp)
          have c2 := p2.cell
          have z2 := p2.free
          have hlen := hJ.len
          obtain ⟨wx, rfl⟩ : ∃ x : World, x = wr := ⟨_, rfl⟩
          have FE : Fr [b2] wx ((((wx.setCell ⟨b2, 0, none⟩ (.int .i64 i)).setCell ⟨b2, 1, none⟩ (.int .i64 T.ev)).setCell ⟨b2, 2, none⟩ (.int .i64 0)).setCell ⟨b2, 3, none⟩ (.slice oe us.length ce)) :=
            ((((Fr.refl [b2] wx).setCell (by simp) _).setCell (by simp) _).setCell (by simp) _).setCell (by simp) _
          have RE := (by rw [htl.out]; exact hJ : LeI wq b3 (i : Int) T.ev 0 tgt wx tgt.length (.slice oe us.length ce) us bo).rinb lt23 FE
          have FF := (FQ.out.trans hJ.fr).step FE (by simp; omega)
          have hJr := hJ.row.fr FE (fun z hz hm => by have := hJ.out z hz; simp at hm; omega)
          have hJo := hJ.out
          have hJl : us.length = (leastT T).rows.length := by rw [show (leastT T).rows = tgt from hlr.out, hlen, ← htl.out]
          replace hJr := Lib.hid hJr; replace hJo := Lib.hid hJo; replace hJl := Lib.hid hJl
          replace FE := Lib.hid FE; replace RE := Lib.hid RE; replace FF := Lib.hid FF; replace hJ := Lib.hid hJ; replace p2 := Lib.hid p2; replace hlen := Lib.hid hlen
          go_wp2_with fail
          have hres : T.ev = T.ev := rfl
          refine bodyPost_ret (v := .agg #[.int .i64 i, .int .i64 T.ev, .int .i64 0, .slice oe us.length ce]) (by simp [results, Try.results67, go_sem, c2]) rfl ⟨.slice oe us.length ce, ?_, ?_, FF.out⟩
          · simp [leastT, hms.out, ← hnm.out]
          · refine ⟨?_, us, bo, hJr.out, hJl.out, fun z hz => by have := hJo.out z hz; have := hI.out.fr.size; have := FC.out.size; omega⟩
            rw [show (leastT T).rows = tgt from hlr.out]; exact RE.out.fr (Fr.refl [] _) (fun b _ hq => ⟨by simp, by have := hI.out.fr.size; have := FC.out.size; omega⟩)
theorem least_any (T : Tb) (v : Value) (w : World) (hT : TIn w v T) (hV : VT T) :
    Calls Try.prog 67 #[v] w fun e w' => ∃ r', e = .returned (.agg #[.int .i64 (leastT T).st, .int .i64 (leastT T).ev, .int .i64 (leastT T).sr, r']) ∧ RInB (fun b => w.heap.size ≤ b) w' r' (leastT T).rows ∧ Fr [] w w' :=
  (least_own T v w hT hV).mono fun e w' ⟨r', h1, h2, h3⟩ => ⟨r', h1, h2.1, h3⟩
end Go.Proofs.Ytnggimkkjdipmaa
