import Derived.Test.YtkfkkglodjehpaaTB15
import Derived.Test.YtkfkkglodjehpaaTB11
import Derived.Deep.Cut
namespace Go.Proofs.Ytkfkkglodjehpaa
open Go.RowKit
set_option linter.unusedVariables false
set_option linter.unusedSimpArgs false
set_option maxHeartbeats 16000000
set_option maxRecDepth 100000
theorem uTRows : Try.prog.underlying 45 = some (.slice TRow) := by kernel_rfl
theorem uTRs : Try.prog.underlying 22 = some (.slice 45) := by kernel_rfl
noncomputable def iTRow : TypeInfo := (Try.prog.info? TRow).getD default
theorem infoTRow : Try.prog.info? TRow = some iTRow := by kernel_rfl
noncomputable def zTRow : Value := iTRow.zero.getD default
noncomputable def iTRows : TypeInfo := (Try.prog.info? 45).getD default
theorem infoTRows : Try.prog.info? 45 = some iTRows := by kernel_rfl
noncomputable def zTRows : Value := iTRows.zero.getD default
theorem bytesTRow : iTRow.bytes = 16 := by kernel_rfl
theorem bytesTRows : iTRows.bytes = 24 := by kernel_rfl
/-- One more row of a state. -/
theorem Row.oneTR {w : World} {v : Value} {l : List (Int × Int)} {bo : Option Nat} (h : Row 2 w v l.length (pcells l) bo) (hn : (l.length + 1) * 16 ≤ 140737488355328) (x : Int × Int) :
    ∃ v' w' bo', (Builtin.append_ #[45, 45] 45 #[v, .slice (some ⟨w.heap.size, 0, none⟩) 1 1]).run Try.prog (w.alloc (.cells #[.int .i64 x.1, .int .i64 x.2] TRow)) = .ok v' w' ∧
      Row 2 w' v' (l ++ [x]).length (pcells (l ++ [x])) bo' ∧ (bo' = bo ∨ ∃ z, bo' = some z ∧ w.heap.size ≤ z) ∧ Fr bo.toList w w' := by
  have f1 : Fr [] w (w.alloc (.cells #[.int .i64 x.1, .int .i64 x.2] TRow)) := (Fr.refl [] w).alloc _
  have P1 := Pt.newA w TRow #[.int .i64 x.1, .int .i64 x.2]
  have h1 := h.fr f1 (by simp)
  have hsrc : Src Try.prog 2 45 (.slice (some ⟨w.heap.size, 0, none⟩) 1 1) 1 (pcells [x]) (w.alloc (.cells #[.int .i64 x.1, .int .i64 x.2] TRow)) := Src.ofSlice _ uTRows ⟨w.heap.size, 0, none⟩ 1 1 _ rfl (fun j u hu => by rw [Addr.add_lit, P1.cell, Nat.zero_add]; exact hu) (by intro u hu; simp [pcells] at hu; rcases hu with rfl | rfl <;> rfl)
  obtain ⟨v', w', bo', hrun, hr, hb, hf⟩ := h1.appendW (t := 45) (ty := 45) (e := TRow) (i := iTRow) (z := zTRow) uTRows infoTRow (by kernel_rfl) (by kernel_rfl) (by omega) (by kernel_rfl) hsrc (by omega) (by rw [bytesTRow]; exact hn) (by omega)
  refine ⟨v', w', bo', hrun, ?_, ?_, (f1.mono (by simp)).trans hf⟩
  · rw [pcells_app, List.length_append]; exact hr
  · rcases hb with hb | hb
    · exact .inl hb
    · exact .inr ⟨_, hb, f1.size⟩
/-- One more row of rows. -/
theorem Row.oneTRs {w : World} {v : Value} {l : List Value} {bo : Option Nat} (h : Row 1 w v l.length l bo) (hn : (l.length + 1) * 24 ≤ 140737488355328) (x : Value) (hx : x.oneCell' = true) :
    ∃ v' w' bo', (Builtin.append_ #[22, 22] 22 #[v, .slice (some ⟨w.heap.size, 0, none⟩) 1 1]).run Try.prog (w.alloc (.cells #[x] 45)) = .ok v' w' ∧
      Row 1 w' v' (l ++ [x]).length (l ++ [x]) bo' ∧ (bo' = bo ∨ ∃ z, bo' = some z ∧ w.heap.size ≤ z) ∧ Fr bo.toList w w' := by
  have f1 : Fr [] w (w.alloc (.cells #[x] 45)) := (Fr.refl [] w).alloc _
  have P1 := Pt.newA w 45 #[x]
  have h1 := h.fr f1 (by simp)
  have hsrc : Src Try.prog 1 22 (.slice (some ⟨w.heap.size, 0, none⟩) 1 1) 1 [x] (w.alloc (.cells #[x] 45)) := Src.ofSlice _ uTRs ⟨w.heap.size, 0, none⟩ 1 1 _ rfl (fun j u hu => by rw [Addr.add_lit, P1.cell, Nat.zero_add]; exact hu) (by intro u hu; simp at hu; rw [hu]; exact hx)
  obtain ⟨v', w', bo', hrun, hr, hb, hf⟩ := h1.appendW (t := 22) (ty := 22) (e := 45) (i := iTRows) (z := zTRows) uTRs infoTRows (by kernel_rfl) (by kernel_rfl) (by omega) (by kernel_rfl) hsrc (by omega) (by rw [bytesTRows]; exact hn) (by omega)
  refine ⟨v', w', bo', hrun, ?_, ?_, (f1.mono (by simp)).trans hf⟩
  · rw [List.length_append]; exact hr
  · rcases hb with hb | hb
    · exact .inl hb
    · exact .inr ⟨_, hb, f1.size⟩
theorem RInB.shape {q : Nat → Prop} {w : World} {v : Value} {l : List (List (Int × Int))} (h : RInB q w v l) : ∃ o k c, v = .slice o k c := by
  obtain ⟨o, cap, rfl, _⟩ := h; exact ⟨_, _, _, rfl⟩
/-! ### Rows of a table in blocks of their own, which may be written -/
structure ORows (q : Nat → Prop) (w : World) (rv : Value) (rows : List (List (Int × Int))) (us : List Value) (bo : Option Nat) (bs : Nat → Option Nat) : Prop where
  row : Row 1 w rv us.length us bo
  len : us.length = rows.length
  each : ∀ k (h : k < us.length) (h2 : k < rows.length), Row 2 w us[k] rows[k].length (pcells rows[k]) (bs k)
  inj : ∀ j k z, j < rows.length → k < rows.length → bs j = some z → bs k = some z → j = k
  nbo : ∀ k z, k < rows.length → bs k = some z → bo ≠ some z
  qo : ∀ z, bo = some z → q z
  qs : ∀ k z, k < rows.length → bs k = some z → q z
theorem ORows.nil (q : Nat → Prop) (w : World) (bs : Nat → Option Nat) : ORows q w (.slice none 0 0) [] [] none bs :=
  ⟨Row.nil 1 w none, rfl, (fun k h => absurd h (Nat.not_lt_zero _)), (fun j k z h => absurd h (Nat.not_lt_zero _)), (fun k z h => absurd h (Nat.not_lt_zero _)), (fun z h => nomatch h), (fun k z h => absurd h (Nat.not_lt_zero _))⟩
section
variable {q : Nat → Prop} {w : World} {rv : Value} {rows : List (List (Int × Int))} {us : List Value} {bo : Option Nat} {bs : Nat → Option Nat}
theorem ORows.fr (h : ORows q w rv rows us bo bs) {ex : List Nat} {W : World} (f : Fr ex w W) (hx : ∀ x ∈ ex, ¬ q x) : ORows q W rv rows us bo bs :=
  ⟨h.row.fr f (fun z hz hm => hx z hm (h.qo z hz)), h.len, fun k h1 h2 => (h.each k h1 h2).fr f (fun z hz hm => hx z hm (h.qs k z h2 hz)), h.inj, h.nbo, h.qo, h.qs⟩
theorem ORows.lto (h : ORows q w rv rows us bo bs) : ∀ z, bo = some z → z < w.heap.size := fun z hz => by have h3 := h.row; rw [hz] at h3; exact h3.lt
theorem ORows.lts (h : ORows q w rv rows us bo bs) : ∀ k z, k < rows.length → bs k = some z → z < w.heap.size := fun k z hk hz => by
  have h3 := h.each k (by rw [h.len]; exact hk) hk
  rw [hz] at h3; exact h3.lt
/-- One row more. -/
theorem ORows.add (h : ORows q w rv rows us bo bs) {W w9 : World} (f : Fr [] w W) {row : List (Int × Int)} {v8 v' : Value} {b8 bo' : Option Nat} (hr : Row 2 W v8 row.length (pcells row) b8) (hb8 : ∀ z, b8 = some z → w.heap.size ≤ z)
    (hq : ∀ z, w.heap.size ≤ z → q z) (hr9 : Row 1 w9 v' (us ++ [v8]).length (us ++ [v8]) bo') (hb : bo' = bo ∨ ∃ z, bo' = some z ∧ W.heap.size ≤ z) (f9 : Fr bo.toList W w9) :
    ∃ bs', ORows q w9 v' (rows ++ [row]) (us ++ [v8]) bo' bs' := by
  have s1 := f.size
  have hl8 : ∀ z, b8 = some z → z < W.heap.size := fun z hz => by have h3 := hr; rw [hz] at h3; exact h3.lt
  have hls := h.lts
  have hlo := h.lto
  have old : ∀ k, k < rows.length → ∀ z, bs k = some z → z ∉ bo.toList := fun k hk z hz hm => h.nbo k z hk hz (by simpa using hm)
  have n8 : ∀ z, b8 = some z → z ∉ bo.toList := fun z hz hm => by have := hb8 z hz; have := hlo z (by simpa using hm); omega
  refine ⟨fun k => if k = rows.length then b8 else bs k, hr9, by simp [h.len], fun k h1 h2 => ?_, fun j k z hj hk e1 e2 => ?_, fun k z hk e1 e2 => ?_, fun z hz => ?_, fun k z hk e1 => ?_⟩
  · by_cases e : k = rows.length
    · subst e
      have e1 : (us ++ [v8])[rows.length]'h1 = v8 := by rw [List.getElem_append_right (by rw [h.len]; exact Nat.le_refl _)]; simp
      have e2 : (rows ++ [row])[rows.length]'h2 = row := by simp
      rw [e1, e2, if_pos rfl]
      exact hr.fr f9 n8
    · have hk : k < rows.length := by simp at h2; omega
      rw [List.getElem_append_left (by rw [h.len]; exact hk), List.getElem_append_left hk, if_neg e]
      exact ((h.each k (by rw [h.len]; exact hk) hk).fr f (by simp)).fr f9 (old k hk)
  · simp only [List.length_append, List.length_singleton] at hj hk
    by_cases a1 : j = rows.length <;> by_cases a2 : k = rows.length
    · omega
    · rw [if_pos a1] at e1; rw [if_neg a2] at e2
      have := hb8 z e1; have := hls k z (by omega) e2; omega
    · rw [if_neg a1] at e1; rw [if_pos a2] at e2
      have := hb8 z e2; have := hls j z (by omega) e1; omega
    · rw [if_neg a1] at e1; rw [if_neg a2] at e2
      exact h.inj j k z (by omega) (by omega) e1 e2
  · simp only [List.length_append, List.length_singleton] at hk
    by_cases a1 : k = rows.length
    · rw [if_pos a1] at e1
      rcases hb with e | ⟨z', e, hz'⟩
      · exact n8 z e1 (by rw [← e, e2]; simp)
      · rw [e2] at e; cases e; have := hl8 z e1; omega
    · rw [if_neg a1] at e1
      rcases hb with e | ⟨z', e, hz'⟩
      · exact h.nbo k z (by omega) e1 (by rw [← e, e2])
      · rw [e2] at e; cases e; have := hls k z (by omega) e1; omega
  · rcases hb with e | ⟨z', e, hz'⟩
    · exact h.qo z (by rw [← e]; exact hz)
    · rw [e] at hz; cases hz; exact hq _ (by omega)
  · simp only [List.length_append, List.length_singleton] at hk
    by_cases a1 : k = rows.length
    · rw [if_pos a1] at e1; exact hq z (hb8 z e1)
    · rw [if_neg a1] at e1; exact h.qs k z (by omega) e1
theorem pcells_set (l : List (Int × Int)) (j : Nat) (x : Int × Int) (hj : j < l.length) : pcells (l.set j x) = ((pcells l).set (j * 2) (.int .i64 x.1)).set (j * 2 + 1) (.int .i64 x.2) := by
  induction l generalizing j with
  | nil => simp at hj
  | cons y l ih =>
    have e : ∀ (a : Int × Int) t, pcells (a :: t) = .int .i64 a.1 :: .int .i64 a.2 :: pcells t := fun _ _ => rfl
    cases j with
    | zero => simp [e]
    | succ j =>
      rw [List.set_cons_succ, e, ih j (by simpa using hj), e, show (j + 1) * 2 = j * 2 + 1 + 1 by omega]
      simp
theorem setCell2_cell {w : World} {b off n : Nat} {u1 u2 : Value} (h1 : (w.cell? ⟨b, off + n, none⟩).isSome = true) (h2 : (w.cell? ⟨b, off + n + 1, none⟩).isSome = true) (m : Nat) :
    ((w.setCell ⟨b, off + n, none⟩ u1).setCell ⟨b, off + n + 1, none⟩ u2).cell? ⟨b, off + m, none⟩ = if m = n then some u1 else if m = n + 1 then some u2 else w.cell? ⟨b, off + m, none⟩ := by
  obtain ⟨x1, hx1⟩ := Option.isSome_iff_exists.mp h1
  obtain ⟨x2, hx2⟩ := Option.isSome_iff_exists.mp h2
  by_cases e1 : m = n
  · subst e1
    rw [if_pos rfl, World.cell?_setCell_other _ _ _ _ (by intro e; injection e; omega), World.cell?_setCell_same _ _ _ hx1]
  · by_cases e2 : m = n + 1
    · subst e2
      rw [if_neg e1, if_pos rfl, ← Nat.add_assoc]
      refine World.cell?_setCell_same _ _ _ (u := x2) ?_
      rw [World.cell?_setCell_other _ _ _ _ (by intro e; injection e; omega)]
      exact hx2
    · rw [if_neg e1, if_neg e2, World.cell?_setCell_other _ _ _ _ (by intro e; injection e; omega), World.cell?_setCell_other _ _ _ _ (by intro e; injection e; omega)]
/-- A cell of a row, written. -/
theorem ORows.put (h : ORows q w rv rows us bo bs) (s e : Nat) (hs : s < rows.length) (he : e < rows[s].length) (x : Int × Int) :
    ∃ br or cr bz oz cz, rv = .slice (some ⟨br, or, none⟩) rows.length cr ∧ br < w.heap.size ∧ w.cell? ⟨br, or + s, none⟩ = some (.slice (some ⟨bz, oz, none⟩) rows[s].length cz) ∧ q br ∧ q bz ∧ br ≠ bz ∧ bz < w.heap.size ∧ (∃ u, w.cell? ⟨bz, oz + e * 2, none⟩ = some u) ∧ (∃ u, w.cell? ⟨bz, oz + e * 2 + 1, none⟩ = some u) ∧ w.frozen? ⟨bz, oz + e * 2, none⟩ = false ∧ w.frozen? ⟨bz, oz + e * 2 + 1, none⟩ = false ∧
      ORows q ((w.setCell ⟨bz, oz + e * 2, none⟩ (.int .i64 x.1)).setCell ⟨bz, oz + e * 2 + 1, none⟩ (.int .i64 x.2)) rv (rows.set s (rows[s].set e x)) us bo bs ∧
      Fr [bz] w ((w.setCell ⟨bz, oz + e * 2, none⟩ (.int .i64 x.1)).setCell ⟨bz, oz + e * 2 + 1, none⟩ (.int .i64 x.2)) := by
  have hsu : s < us.length := by rw [h.len]; exact hs
  have hE := h.each s hsu hs
  rcases hE with ⟨_, h2, _⟩ | ⟨bz, oz, cz, hbz, hv, h3, h4, h5, h6, h7⟩
  · omega
  rcases h.row with ⟨_, h2, _⟩ | ⟨br, or, cr, hbr, hrv, g3, g4, g5, g6, g7⟩
  · omega
  have hne : br ≠ bz := fun e => h.nbo s bz hs hbz (by rw [hbr, e])
  have f : Fr [bz] w ((w.setCell ⟨bz, oz + e * 2, none⟩ (.int .i64 x.1)).setCell ⟨bz, oz + e * 2 + 1, none⟩ (.int .i64 x.2)) := ((Fr.refl _ w).setCell (by simp) _).setCell (by simp) _
  have a1 := h6 (e * 2) (by omega)
  have a2 := h6 (e * 2 + 1) (by omega)
  rw [← Nat.add_assoc] at a2
  refine ⟨br, or, cr, bz, oz, cz, by rw [hrv, h.len], g4, by rw [g7 s (by omega), List.getElem?_eq_getElem (by omega), hv], h.qo br hbr, h.qs s bz hs hbz, hne, h4, Option.isSome_iff_exists.mp a1.1, Option.isSome_iff_exists.mp a2.1, a1.2, a2.2, ⟨h.row.fr f (fun z hz hm => ?_), by rw [List.length_set]; exact h.len, fun k k1 k2 => ?_, fun j k z hj hk => ?_, fun k z hk => ?_, h.qo, fun k z hk => ?_⟩, f⟩
  · simp at hm; subst hm; rw [hbr] at hz; cases hz; exact hne rfl
  · have k2' : k < rows.length := by simpa using k2
    by_cases ek : s = k
    · subst ek
      rw [List.getElem_set_self, List.length_set, pcells_set _ _ _ he]
      refine .inr ⟨bz, oz, cz, hbz, hv, h3, by simpa [World.setCell] using h4, by simpa using h5, fun j hj => ?_, fun j hj => ?_⟩
      · have b := h6 j hj
        refine ⟨?_, by rw [World.frozen?_setCell, World.frozen?_setCell]; exact b.2⟩
        rw [setCell2_cell a1.1 a2.1]
        split
        · rfl
        · split
          · rfl
          · exact b.1
      · rw [setCell2_cell a1.1 a2.1, h7 j hj]
        by_cases e1 : j = e * 2
        · subst e1
          rw [if_pos rfl, List.getElem?_set_ne (by omega), List.getElem?_set_self (by rw [h5]; omega)]
        · by_cases e2 : j = e * 2 + 1
          · subst e2
            rw [if_neg e1, if_pos rfl, List.getElem?_set_self (by rw [List.length_set, h5]; omega)]
          · rw [if_neg e1, if_neg e2, List.getElem?_set_ne (by omega), List.getElem?_set_ne (by omega)]
    · have e1 : (rows.set s (rows[s].set e x))[k]'k2 = rows[k] := by rw [List.getElem_set_ne ek]
      rw [e1]
      exact (h.each k k1 k2').fr f (fun z hz hm => by simp at hm; subst hm; exact ek (h.inj s k z hs k2' hbz hz))
  · exact h.inj j k z (by simpa using hj) (by simpa using hk)
  · exact h.nbo k z (by simpa using hk)
  · exact h.qs k z (by simpa using hk)
theorem ORows.rinb (h : ORows q w rv rows us bo bs) : RInB q w rv rows := by
  rcases h.row with ⟨_, h2, _, o, e⟩ | ⟨b, off, cap, hb, e, h3, h4, _, _, h7⟩
  · have : rows.length = 0 := by have := h.len; omega
    exact ⟨o, 0, by rw [e, this], fun i hi => by omega⟩
  · refine ⟨_, cap, by rw [e, h.len], fun i hi => ⟨b, off, us[i]'(by rw [h.len]; exact hi), rfl, h4, h.qo b hb, ?_, (h.each i (by rw [h.len]; exact hi) hi).pinb (fun z hz => h.qs i z hi hz)⟩⟩
    rw [h7 i (by rw [h.len]; omega), List.getElem?_eq_getElem (by rw [h.len]; exact hi)]
theorem ORows.rin (h : ORows q w rv rows us bo bs) : RIn w rv rows := h.rinb.rin
end
end Go.Proofs.Ytkfkkglodjehpaa
