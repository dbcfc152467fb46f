import Derived.Test.YtnggimkkjdipmaaTB26
import Derived.Test.YtnggimkkjdipmaaTJ2
import Derived.Deep.Cut
namespace Go.Proofs.Ytnggimkkjdipmaa
open Go.RowKit
set_option linter.unusedVariables false
set_option linter.unusedSimpArgs false
set_option maxHeartbeats 16000000
set_option maxRecDepth 100000
/-! ### Rows of a table in blocks of their own, which may be written -/
structure ORows (q : Nat → Prop) (w : World) (rv : Value) (rows : List (List (Int × Int))) (us : List Value) (bo : Option Nat) (bs : Nat → Option Nat) : Prop where
  row : Row 1 w rv us.length us bo
  len : us.length = rows.length
  each : ∀ k (h : k < us.length) (h2 : k < rows.length), Row 2 w us[k] rows[k].length (pcells rows[k]) (bs k)
  inj : ∀ j k z, j < rows.length → k < rows.length → bs j = some z → bs k = some z → j = k
  nbo : ∀ k z, k < rows.length → bs k = some z → bo ≠ some z
  qo : ∀ z, bo = some z → q z
  qs : ∀ k z, k < rows.length → bs k = some z → q z
theorem ORows.nil (q : Nat → Prop) (w : World) (bs : Nat → Option Nat) : ORows q w (.slice none 0 0) [] [] none bs :=
  ⟨Row.nil 1 w none, rfl, (fun k h => absurd h (Nat.not_lt_zero _)), (fun j k z h => absurd h (Nat.not_lt_zero _)), (fun k z h => absurd h (Nat.not_lt_zero _)), (fun z h => nomatch h), (fun k z h => absurd h (Nat.not_lt_zero _))⟩
section
variable {q : Nat → Prop} {w : World} {rv : Value} {rows : List (List (Int × Int))} {us : List Value} {bo : Option Nat} {bs : Nat → Option Nat}
theorem ORows.fr (h : ORows q w rv rows us bo bs) {ex : List Nat} {W : World} (f : Fr ex w W) (hx : ∀ x ∈ ex, ¬ q x) : ORows q W rv rows us bo bs :=
  ⟨h.row.fr f (fun z hz hm => hx z hm (h.qo z hz)), h.len, fun k h1 h2 => (h.each k h1 h2).fr f (fun z hz hm => hx z hm (h.qs k z h2 hz)), h.inj, h.nbo, h.qo, h.qs⟩
theorem ORows.lto (h : ORows q w rv rows us bo bs) : ∀ z, bo = some z → z < w.heap.size := fun z hz => by have h3 := h.row; rw [hz] at h3; exact h3.lt
theorem ORows.lts (h : ORows q w rv rows us bo bs) : ∀ k z, k < rows.length → bs k = some z → z < w.heap.size := fun k z hk hz => by
  have h3 := h.each k (by rw [h.len]; exact hk) hk
  rw [hz] at h3; exact h3.lt
/-- One row more. -/
theorem ORows.add (h : ORows q w rv rows us bo bs) {W w9 : World} (f : Fr [] w W) {row : List (Int × Int)} {v8 v' : Value} {b8 bo' : Option Nat} (hr : Row 2 W v8 row.length (pcells row) b8) (hb8 : ∀ z, b8 = some z → w.heap.size ≤ z)
    (hq : ∀ z, w.heap.size ≤ z → q z) (hr9 : Row 1 w9 v' (us ++ [v8]).length (us ++ [v8]) bo') (hb : bo' = bo ∨ ∃ z, bo' = some z ∧ W.heap.size ≤ z) (f9 : Fr bo.toList W w9) :
    ∃ bs', ORows q w9 v' (rows ++ [row]) (us ++ [v8]) bo' bs' := by
  have s1 := f.size
  have hl8 : ∀ z, b8 = some z → z < W.heap.size := fun z hz => by have h3 := hr; rw [hz] at h3; exact h3.lt
  have hls := h.lts
  have hlo := h.lto
  have old : ∀ k, k < rows.length → ∀ z, bs k = some z → z ∉ bo.toList := fun k hk z hz hm => h.nbo k z hk hz (by simpa using hm)
  have n8 : ∀ z, b8 = some z → z ∉ bo.toList := fun z hz hm => by have := hb8 z hz; have := hlo z (by simpa using hm); omega
  refine ⟨fun k => if k = rows.length then b8 else bs k, hr9, by simp [h.len], fun k h1 h2 => ?_, fun j k z hj hk e1 e2 => ?_, fun k z hk e1 e2 => ?_, fun z hz => ?_, fun k z hk e1 => ?_⟩
  · by_cases e : k = rows.length
    · subst e
      have e1 : (us ++ [v8])[rows.length]'h1 = v8 := by rw [List.getElem_append_right (by rw [h.len]; exact Nat.le_refl _)]; simp
      have e2 : (rows ++ [row])[rows.length]'h2 = row := by simp
      rw [e1, e2, if_pos rfl]
      exact hr.fr f9 n8
    · have hk : k < rows.length := by simp at h2; omega
      rw [List.getElem_append_left (by rw [h.len]; exact hk), List.getElem_append_left hk, if_neg e]
      exact ((h.each k (by rw [h.len]; exact hk) hk).fr f (by simp)).fr f9 (old k hk)
  · simp only [List.length_append, List.length_singleton] at hj hk
    by_cases a1 : j = rows.length <;> by_cases a2 : k = rows.length
    · omega
    · rw [if_pos a1] at e1; rw [if_neg a2] at e2
      have := hb8 z e1; have := hls k z (by omega) e2; omega
    · rw [if_neg a1] at e1; rw [if_pos a2] at e2
      have := hb8 z e2; have := hls j z (by omega) e1; omega
    · rw [if_neg a1] at e1; rw [if_neg a2] at e2
      exact h.inj j k z (by omega) (by omega) e1 e2
  · simp only [List.length_append, List.length_singleton] at hk
    by_cases a1 : k = rows.length
    · rw [if_pos a1] at e1
      rcases hb with e | ⟨z', e, hz'⟩
      · exact n8 z e1 (by rw [← e, e2]; simp)
      · rw [e2] at e; cases e; have := hl8 z e1; omega
    · rw [if_neg a1] at e1
      rcases hb with e | ⟨z', e, hz'⟩
      · exact h.nbo k z (by omega) e1 (by rw [← e, e2])
      · rw [e2] at e; cases e; have := hls k z (by omega) e1; omega
  · rcases hb with e | ⟨z', e, hz'⟩
    · exact h.qo z (by rw [← e]; exact hz)
    · rw [e] at hz; cases hz; exact hq _ (by omega)
  · simp only [List.length_append, List.length_singleton] at hk
    by_cases a1 : k = rows.length
    · rw [if_pos a1] at e1; exact hq z (hb8 z e1)
    · rw [if_neg a1] at e1; exact h.qs k z (by omega) e1
theorem pcells_set (l : List (Int × Int)) (j : Nat) (x : Int × Int) (hj : j < l.length) : pcells (l.set j x) = ((pcells l).set (j * 2) (.int .i64 x.1)).set (j * 2 + 1) (.int .i64 x.2) := by
  induction l generalizing j with
  | nil => simp at hj
  | cons y l ih =>
    have e : ∀ (a : Int × Int) t, pcells (a :: t) = .int .i64 a.1 :: .int .i64 a.2 :: pcells t := fun _ _ => rfl
    cases j with
    | zero => simp [e]
    | succ j =>
      rw [List.set_cons_succ, e, ih j (by simpa using hj), e, show (j + 1) * 2 = j * 2 + 1 + 1 by omega]
      simp
theorem setCell2_cell {w : World} {b off n : Nat} {u1 u2 : Value} (h1 : (w.cell? ⟨b, off + n, none⟩).isSome = true) (h2 : (w.cell? ⟨b, off + n + 1, none⟩).isSome = true) (m : Nat) :
    ((w.setCell ⟨b, off + n, none⟩ u1).setCell ⟨b, off + n + 1, none⟩ u2).cell? ⟨b, off + m, none⟩ = if m = n then some u1 else if m = n + 1 then some u2 else w.cell? ⟨b, off + m, none⟩ := by
  obtain ⟨x1, hx1⟩ := Option.isSome_iff_exists.mp h1
  obtain ⟨x2, hx2⟩ := Option.isSome_iff_exists.mp h2
  by_cases e1 : m = n
  · subst e1
    rw [if_pos rfl, World.cell?_setCell_other _ _ _ _ (by intro e; injection e; omega), World.cell?_setCell_same _ _ _ hx1]
  · by_cases e2 : m = n + 1
    · subst e2
      rw [if_neg e1, if_pos rfl, ← Nat.add_assoc]
      refine World.cell?_setCell_same _ _ _ (u := x2) ?_
      rw [World.cell?_setCell_other _ _ _ _ (by intro e; injection e; omega)]
      exact hx2
    · rw [if_neg e1, if_neg e2, World.cell?_setCell_other _ _ _ _ (by intro e; injection e; omega), World.cell?_setCell_other _ _ _ _ (by intro e; injection e; omega)]
/-- A cell of a row, written. -/
theorem ORows.put (h : ORows q w rv rows us bo bs) (s e : Nat) (hs : s < rows.length) (he : e < rows[s].length) (x : Int × Int) :
    ∃ br or cr bz oz cz, rv = .slice (some ⟨br, or, none⟩) rows.length cr ∧ br < w.heap.size ∧ w.cell? ⟨br, or + s, none⟩ = some (.slice (some ⟨bz, oz, none⟩) rows[s].length cz) ∧ q br ∧ q bz ∧ br ≠ bz ∧ bz < w.heap.size ∧ (∃ u, w.cell? ⟨bz, oz + e * 2, none⟩ = some u) ∧ (∃ u, w.cell? ⟨bz, oz + e * 2 + 1, none⟩ = some u) ∧ w.frozen? ⟨bz, oz + e * 2, none⟩ = false ∧ w.frozen? ⟨bz, oz + e * 2 + 1, none⟩ = false ∧
      ORows q ((w.setCell ⟨bz, oz + e * 2, none⟩ (.int .i64 x.1)).setCell ⟨bz, oz + e * 2 + 1, none⟩ (.int .i64 x.2)) rv (rows.set s (rows[s].set e x)) us bo bs ∧
      Fr [bz] w ((w.setCell ⟨bz, oz + e * 2, none⟩ (.int .i64 x.1)).setCell ⟨bz, oz + e * 2 + 1, none⟩ (.int .i64 x.2)) := by
  have hsu : s < us.length := by rw [h.len]; exact hs
  have hE := h.each s hsu hs
  rcases hE with ⟨_, h2, _⟩ | ⟨bz, oz, cz, hbz, hv, h3, h4, h5, h6, h7⟩
  · omega
  rcases h.row with ⟨_, h2, _⟩ | ⟨br, or, cr, hbr, hrv, g3, g4, g5, g6, g7⟩
  · omega
  have hne : br ≠ bz := fun e => h.nbo s bz hs hbz (by rw [hbr, e])
  have f : Fr [bz] w ((w.setCell ⟨bz, oz + e * 2, none⟩ (.int .i64 x.1)).setCell ⟨bz, oz + e * 2 + 1, none⟩ (.int .i64 x.2)) := ((Fr.refl _ w).setCell (by simp) _).setCell (by simp) _
  have a1 := h6 (e * 2) (by omega)
  have a2 := h6 (e * 2 + 1) (by omega)
  rw [← Nat.add_assoc] at a2
  refine ⟨br, or, cr, bz, oz, cz, by rw [hrv, h.len], g4, by rw [g7 s (by omega), List.getElem?_eq_getElem (by omega), hv], h.qo br hbr, h.qs s bz hs hbz, hne, h4, Option.isSome_iff_exists.mp a1.1, Option.isSome_iff_exists.mp a2.1, a1.2, a2.2, ⟨h.row.fr f (fun z hz hm => ?_), by rw [List.length_set]; exact h.len, fun k k1 k2 => ?_, fun j k z hj hk => ?_, fun k z hk => ?_, h.qo, fun k z hk => ?_⟩, f⟩
  · simp at hm; subst hm; rw [hbr] at hz; cases hz; exact hne rfl
  · have k2' : k < rows.length := by simpa using k2
    by_cases ek : s = k
    · subst ek
      rw [List.getElem_set_self, List.length_set, pcells_set _ _ _ he]
      refine .inr ⟨bz, oz, cz, hbz, hv, h3, by simpa [World.setCell] using h4, by simpa using h5, fun j hj => ?_, fun j hj => ?_⟩
      · have b := h6 j hj
        refine ⟨?_, by rw [World.frozen?_setCell, World.frozen?_setCell]; exact b.2⟩
        rw [setCell2_cell a1.1 a2.1]
        split
        · rfl
        · split
          · rfl
          · exact b.1
      · rw [setCell2_cell a1.1 a2.1, h7 j hj]
        by_cases e1 : j = e * 2
        · subst e1
          rw [if_pos rfl, List.getElem?_set_ne (by omega), List.getElem?_set_self (by rw [h5]; omega)]
        · by_cases e2 : j = e * 2 + 1
          · subst e2
            rw [if_neg e1, if_pos rfl, List.getElem?_set_self (by rw [List.length_set, h5]; omega)]
          · rw [if_neg e1, if_neg e2, List.getElem?_set_ne (by omega), List.getElem?_set_ne (by omega)]
    · have e1 : (rows.set s (rows[s].set e x))[k]'k2 = rows[k] := by rw [List.getElem_set_ne ek]
      rw [e1]
      exact (h.each k k1 k2').fr f (fun z hz hm => by simp at hm; subst hm; exact ek (h.inj s k z hs k2' hbz hz))
  · exact h.inj j k z (by simpa using hj) (by simpa using hk)
  · exact h.nbo k z (by simpa using hk)
  · exact h.qs k z (by simpa using hk)
theorem ORows.rinb (h : ORows q w rv rows us bo bs) : RInB q w rv rows := by
  rcases h.row with ⟨_, h2, _, o, e⟩ | ⟨b, off, cap, hb, e, h3, h4, _, _, h7⟩
  · have : rows.length = 0 := by have := h.len; omega
    exact ⟨o, 0, by rw [e, this], fun i hi => by omega⟩
  · refine ⟨_, cap, by rw [e, h.len], fun i hi => ⟨b, off, us[i]'(by rw [h.len]; exact hi), rfl, h4, h.qo b hb, ?_, (h.each i (by rw [h.len]; exact hi) hi).pinb (fun z hz => h.qs i z hi hz)⟩⟩
    rw [h7 i (by rw [h.len]; omega), List.getElem?_eq_getElem (by rw [h.len]; exact hi)]
theorem ORows.rin (h : ORows q w rv rows us bo bs) : RIn w rv rows := h.rinb.rin
end
/-! #### rows, copied -/
theorem copyT_run (o : Option Addr) (cap : Nat) (ds : List (Int × Int)) (w : World) (hD : PIn w (.slice o ds.length cap) ds) (h0 : 0 < ds.length) (hn : ds.length < 1000000) :
    ∃ v' w' bo, (Builtin.append_ #[71, 71] 71 #[.slice (some ⟨w.heap.size, 0, none⟩) 0 0, .slice o ds.length cap]).run Try.prog (w.alloc (.cells #[] TRow)) = .ok v' w' ∧
      Row 2 w' v' ds.length (pcells ds) bo ∧ (∀ z, bo = some z → w.heap.size ≤ z) ∧ Fr [] w w' := by
  obtain ⟨o', cap', hv, hl⟩ := hD
  cases hv
  have f1 : Fr [] w (w.alloc (.cells #[] TRow)) := (Fr.refl [] w).alloc _
  obtain ⟨b, off, e0, hb, _⟩ := hl 0 h0
  cases e0
  have hc : ∀ i (h : i < ds.length), w.cell? ⟨b, off + i * 2, none⟩ = some (.int .i64 ds[i].1) ∧ w.cell? ⟨b, off + i * 2 + 1, none⟩ = some (.int .i64 ds[i].2) := fun i h => by
    obtain ⟨b', off', e, _, hc⟩ := hl i h
    cases e
    exact hc
  have hsrc : Src Try.prog 2 71 (.slice (some ⟨b, off, none⟩) ds.length cap) ds.length (pcells ds) (w.alloc (.cells #[] TRow)) := Src.ofSlice _ uTRows ⟨b, off, none⟩ ds.length cap _ (pcells_len ds) (fun j u hu => by
      have hj : j < ds.length * 2 := by have := (List.getElem?_eq_some_iff.1 hu).1; rwa [pcells_len] at this
      rw [Addr.add_lit, f1.cell (p := ⟨b, off + j, none⟩) hb (by simp)]
      have hg := pcells_get ds (j / 2) (by omega)
      have hcj := hc (j / 2) (by omega)
      rcases Nat.mod_two_eq_zero_or_one j with e | e
      · have ej : j = j / 2 * 2 := by omega
        rw [ej] at hu ⊢
        rw [hcj.1, ← hu, hg.1]
      · have ej : j = j / 2 * 2 + 1 := by omega
        rw [ej] at hu ⊢
        rw [← Nat.add_assoc, hcj.2, ← hu, hg.2]) (by
      intro u hu
      simp only [pcells, List.mem_flatMap] at hu
      obtain ⟨a, _, hm⟩ := hu
      simp at hm
      rcases hm with rfl | rfl <;> rfl)
  obtain ⟨v', w', bo', hrun, hr, hb', hf⟩ := (Row.nil 2 (w.alloc (.cells #[] TRow)) (some ⟨w.heap.size, 0, none⟩)).append (t := 71) (ty := 71) (e := TRow) (i := iTRow) (z := zTRow) uTRows infoTRow (by kernel_rfl) (by kernel_rfl) (by omega) (by kernel_rfl) (of_decide_eq_true (by kernel_rfl)) (by omega) hsrc (by omega) h0
  refine ⟨v', w', bo', hrun, by simpa using hr, fun z hz => ?_, f1.trans (by simpa using hf)⟩
  rcases hb' with h | h
  · rw [h] at hz; cases hz
  · rw [h] at hz; cases hz; exact f1.size
theorem eq_nilT (o : Option Addr) (l c : Nat) (w : World) : (binOp .eql 71 (.slice o l c) (.slice none 0 0)).run Try.prog w = .ok (.bool o.isNone) w := by
  simp [binOp, run_equal_slice_nil w _ _ o l c uTRows]
theorem cloneT_any (v : Value) (ds : List (Int × Int)) (w : World) (hD : PIn w v ds) (h0 : 0 < ds.length) (hn : ds.length < 1000000) :
    Calls Try.prog 92 #[v] w fun e w' => ∃ v' bo, e = .returned v' ∧ Row 2 w' v' ds.length (pcells ds) bo ∧ (∀ z, bo = some z → w.heap.size ≤ z) ∧ Fr [] w w' := by
  have hD' := hD
  obtain ⟨o, cap, rfl, hl⟩ := hD'
  obtain ⟨b, off, rfl, _⟩ := hl 0 h0
  obtain ⟨v', w', bo, hrun, hr, hb, hf⟩ := copyT_run _ cap ds w hD h0 hn
  replace hrun := Lib.hid hrun
  clear hD hl
  go_enter Try.func92, Try.ntmps92
  go_wp2_with fail
  rw [eq_nilT]
  go_wp2_with (first | (at_builtin; refine wpList_append_run _ rfl _ _ _ rfl rfl rfl hrun.out ?_))
  go_ret
  exact ⟨v', bo, rfl, hr, hb, hf⟩
end Go.Proofs.Ytnggimkkjdipmaa
namespace Go.Proofs.Ytnggimkkjdipmaa
open Go.RowKit
set_option linter.unusedVariables false
set_option linter.unusedSimpArgs false
set_option maxHeartbeats 16000000
set_option maxRecDepth 100000
/-- What copied hands back: the same table, in blocks of its own. -/
def CopR (T : Tb) (w : World) (e : Ending) (w' : World) : Prop := ∃ rv us bo bs, e = .returned (.agg #[.int .i64 T.st, .int .i64 T.ev, .int .i64 T.sr, rv]) ∧ ORows (fun b => w.heap.size ≤ b) w' rv T.rows us bo bs ∧ Fr [] w w'
theorem copied_any (T : Tb) (r : Value) (w : World) (hR : RIn w r T.rows) (hV : VT T) :
    Calls Try.prog 72 #[.agg #[.int .i64 T.st, .int .i64 T.ev, .int .i64 T.sr, r]] w (CopR T w) := by
  have hrl := hV.rows
  have hst := hV.st
  have hl30 : T.rows.length ≤ 30 := by omega
  obtain ⟨o, cap, rfl, hlR⟩ := hR
  obtain ⟨w1, hw1⟩ : ∃ x, w.alloc (.cells #[.int .i64 T.st, .int .i64 T.ev, .int .i64 T.sr, .slice o T.rows.length cap] TTab) = x := ⟨_, rfl⟩
  have P1 := Pt.newA w TTab #[.int .i64 T.st, .int .i64 T.ev, .int .i64 T.sr, .slice o T.rows.length cap]
  rw [hw1] at P1
  have F1 : Fr [] w w1 := by rw [← hw1]; exact (Fr.refl [] w).alloc _
  obtain ⟨b1, hb1⟩ : ∃ x, w.heap.size = x := ⟨_, rfl⟩
  rw [hb1] at P1
  obtain ⟨w2, hw2⟩ : ∃ x, w1.alloc (.cells #[.int .i64 0, .int .i64 0, .int .i64 0, .slice none 0 0] TTab) = x := ⟨_, rfl⟩
  have P2 := Pt.newA w1 TTab #[.int .i64 0, .int .i64 0, .int .i64 0, .slice none 0 0]
  rw [hw2] at P2
  have F2 : Fr [] w1 w2 := by rw [← hw2]; exact (Fr.refl [] w1).alloc _
  obtain ⟨b2, hb2⟩ : ∃ x, w1.heap.size = x := ⟨_, rfl⟩
  rw [hb2] at P2
  have l1 := P1.lt
  have lt12 : b1 < b2 := by omega
  have wb1 : w.heap.size ≤ b1 := by omega
  have Q1 := F2.pt P1 (by simp)
  have FA := F1.trans F2
  have k1 := Q1.cell
  have s2 := P2.lt
  have s2e : w2.heap.size ≤ b2 + 1 := by rw [← hw2, World.size_alloc]; omega
  replace P1 := Lib.hid P1; replace P2 := Lib.hid P2; replace Q1 := Lib.hid Q1; replace F1 := Lib.hid F1; replace F2 := Lib.hid F2; replace FA := Lib.hid FA; replace hlR := Lib.hid hlR; replace hV := Lib.hid hV; replace hrl := Lib.hid hrl; replace hst := Lib.hid hst
  go_enter Try.func72, Try.ntmps72
  go_wp2_with fail
  clear k1 hw1 hw2 hb1 hb2
  go_loopg [3, 9] (T.rows.length + 1) (fun k v3 v9 wr => ∃ (i : Nat) (us : List Value) (bo : Option Nat) (bs : Nat → Option Nat), i ≤ T.rows.length ∧ k + i = T.rows.length + 1 ∧ v9 = .int .i64 i ∧ ORows (fun b => b2 < b) wr v3 (T.rows.take i) us bo bs ∧ Fr [] w2 wr)
  case atStart => exact ⟨0, [], none, fun _ => none, by omega, by omega, rfl, ORows.nil _ _ _, Fr.refl _ _⟩
  case round =>
    obtain ⟨i, us, bo, bs, hi, hk, rfl, hO, hF⟩ := hrel
    obtain ⟨wi, rfl⟩ : ∃ x : World, x = wr := ⟨_, rfl⟩
    by_cases hlt : i < T.rows.length
    · have hltI : (i : Int) < T.rows.length := by omega
      obtain ⟨BB, off, u, rfl, hBB, hcB, hu⟩ := hlR.out i hlt
      obtain ⟨row, hrow⟩ : ∃ row, T.rows[i] = row := ⟨_, rfl⟩
      have hrlen := hV.out.row _ (List.getElem_mem hlt)
      have hev := hV.out.ev
      rw [hrow] at hu hrlen
      have c1 := (FA.out.trans hF).cell (p := ⟨BB, off + i, none⟩) hBB (by simp)
      rw [hcB] at c1
      have CL := cloneT_any u row wi (hu.fr (FA.out.trans hF)) (by omega) (by omega)
      have htk : T.rows.take (i + 1) = T.rows.take i ++ [row] := by rw [List.take_succ_eq_append_getElem hlt, hrow]
      have ul : us.length = i := by rw [hO.len, List.length_take]; omega
      have s3 := hF.size
      have hO' := hO
      have hor := hO.row.len
      replace hO := Lib.hid hO; replace hF := Lib.hid hF; replace hu := Lib.hid hu; replace CL := Lib.hid CL; replace htk := Lib.hid htk; replace hrlen := Lib.hid hrlen; replace hcB := Lib.hid hcB; replace hrow := Lib.hid hrow; replace hO' := Lib.hid hO'
      obtain ⟨o3, c3, rfl⟩ := hor
      rw [ul]
      go_wp2_with fail
      refine CL.out.mono ?_
      rintro e w4 ⟨v4, bo4, rfl, hr4, hb4, f4⟩
      have s4 := f4.size
      obtain ⟨o4, c4, rfl⟩ := hr4.len
      obtain ⟨v5, w5, bo5, happ, hr5, hb5, f5⟩ := (hO'.out.row.fr f4 (by simp)).oneTRs (by omega) (.slice o4 row.length c4) rfl
      rw [ul] at happ
      obtain ⟨bs', hN⟩ := hO'.out.add f4 hr4 hb4 (fun z hz => by omega) hr5 hb5 f5
      rw [← htk.out] at hN
      have F5 := (hF.out.trans f4).step f5 (fun z hz => .inr (by have := hO'.out.qo z (by simpa using hz); omega))
      replace hr4 := Lib.hid hr4; replace hb4 := Lib.hid hb4; replace f4 := Lib.hid f4; replace happ := Lib.hid happ; replace hr5 := Lib.hid hr5; replace hb5 := Lib.hid hb5; replace f5 := Lib.hid f5; replace hN := Lib.hid hN; replace F5 := Lib.hid F5
      go_wp2_with (first | (at_builtin; refine wpList_append_run _ rfl _ _ _ rfl rfl rfl happ.out ?_))
      go_roundg (gk - 1)
      case measure => omega
      case rel => exact ⟨i + 1, _, _, _, by omega, by omega, by go_num, hN.out, F5.out⟩
    · have hltI : ¬ (i : Int) < T.rows.length := by omega
      obtain rfl : i = T.rows.length := by omega
      rw [List.take_length] at hO
      have q1 := hF.pt Q1.out (by simp)
      have q2 := hF.pt P2.out (by simp)
      have ul : us.length = T.rows.length := hO.len
      have hor := hO.row.len
      obtain ⟨o3, c3, rfl⟩ := hor
      rw [ul] at hO ⊢
      have p1 := q1.set 3 (.slice o3 T.rows.length c3)
      have fs1 : Fr [b1] wi (wi.setCell ⟨b1, 3, none⟩ (.slice o3 T.rows.length c3)) := (Fr.refl _ wi).setCell (by simp) _
      obtain ⟨w6, hw6⟩ : ∃ x, wi.setCell ⟨b1, 3, none⟩ (.slice o3 T.rows.length c3) = x := ⟨_, rfl⟩
      rw [hw6] at p1 fs1
      simp only [List.set_cons_zero, List.set_cons_succ] at p1
      have k1 := p1.cell
      have k1' := q1.cell
      have z1' := q1.free
      have q26 := fs1.pt q2 (by simp; omega)
      have k2 := q26.cell
      have z2 := q26.free
      have p2 := (((q26.set 0 (.int .i64 T.st)).set 1 (.int .i64 T.ev)).set 2 (.int .i64 T.sr)).set 3 (.slice o3 T.rows.length c3)
      have fs2 : Fr [b2] w6 ((((w6.setCell ⟨b2, 0, none⟩ (.int .i64 T.st)).setCell ⟨b2, 1, none⟩ (.int .i64 T.ev)).setCell ⟨b2, 2, none⟩ (.int .i64 T.sr)).setCell ⟨b2, 3, none⟩ (.slice o3 T.rows.length c3)) := ((((Fr.refl _ w6).setCell (by simp) _).setCell (by simp) _).setCell (by simp) _).setCell (by simp) _
      obtain ⟨w7, hw7⟩ : ∃ x, (((w6.setCell ⟨b2, 0, none⟩ (.int .i64 T.st)).setCell ⟨b2, 1, none⟩ (.int .i64 T.ev)).setCell ⟨b2, 2, none⟩ (.int .i64 T.sr)).setCell ⟨b2, 3, none⟩ (.slice o3 T.rows.length c3) = x := ⟨_, rfl⟩
      rw [hw7] at p2 fs2
      simp only [List.set_cons_zero, List.set_cons_succ] at p2
      have k3 := p2.cell
      have hO7 := (hO.fr fs1 (fun x hx => by simp at hx; omega)).fr fs2 (fun x hx => by simp at hx; omega)
      have F7 : Fr [] w w7 := ((FA.out.trans hF).step fs1 (fun z hz => .inr (by simp at hz; omega))).step fs2 (fun z hz => .inr (by simp at hz; omega))
      have GO : CopR T w (.returned (.agg #[.int .i64 T.st, .int .i64 T.ev, .int .i64 T.sr, .slice o3 T.rows.length c3])) w7 := ⟨_, us, bo, bs, rfl, ⟨hO7.row, hO7.len, hO7.each, hO7.inj, hO7.nbo, fun z hz => by have := hO7.qo z hz; omega, fun k z hk hz => by have := hO7.qs k z hk hz; omega⟩, F7⟩
      replace hO := Lib.hid hO; replace hF := Lib.hid hF; replace q1 := Lib.hid q1; replace q2 := Lib.hid q2; replace p1 := Lib.hid p1; replace fs1 := Lib.hid fs1; replace q26 := Lib.hid q26; replace p2 := Lib.hid p2; replace fs2 := Lib.hid fs2; replace hO7 := Lib.hid hO7; replace F7 := Lib.hid F7; replace GO := Lib.hid GO
      go_wp2_with fail
      refine bodyPost_ret (v := .agg #[.int .i64 T.st, .int .i64 T.ev, .int .i64 T.sr, .slice o3 T.rows.length c3]) (by simp [results, Try.results72, go_sem, k3]) rfl GO.out
end Go.Proofs.Ytnggimkkjdipmaa
