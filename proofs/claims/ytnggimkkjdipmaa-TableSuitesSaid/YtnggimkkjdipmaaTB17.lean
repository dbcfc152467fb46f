import Derived.Test.YtnggimkkjdipmaaTB14
import Derived.Test.YtnggimkkjdipmaaTP6
import Derived.Deep.Cut
import Derived.Deep.CutRange
namespace Go.Proofs.Ytnggimkkjdipmaa
open Go.RowKit
set_option linter.unusedVariables false
set_option linter.unusedSimpArgs false
set_option maxHeartbeats 8000000
set_option maxRecDepth 20000
/-! ### slices.Clone -/
/-- append([]int{}, l..). -/
theorem copy_run (a0 : Addr) (cap : Nat) (ds : List Int) (w : World) (hD : NIn w (.slice (some a0) ds.length cap) ds) (hn : ds.length < 1000000) :
    ∃ v' w' bo, (Builtin.append_ #[25, 25] 25 #[.slice (some ⟨w.heap.size, 0, none⟩) 0 0, .slice (some a0) ds.length cap]).run Try.prog (w.alloc (.cells #[] 3)) = .ok v' w' ∧
      Row 1 w' v' ds.length (ints ds) bo ∧ (∀ z, bo = some z → w.heap.size ≤ z) ∧ Fr [] w w' := by
  obtain ⟨o, cap', hv, hl⟩ := hD
  cases hv
  have f1 : Fr [] w (w.alloc (.cells #[] 3)) := (Fr.refl [] w).alloc _
  by_cases h0 : ds = []
  · subst h0
    have hsrc : Src Try.prog iInt.size 25 (.slice (some a0) ([] : List Int).length cap) 0 [] (w.alloc (.cells #[] 3)) := by
      refine Src.mk (.inl ⟨_, uInts⟩) (fun w' => by simp [Builtin.lenOf, go_sem]) ?_ ?_ (by simp) (by simp)
      · simp [Builtin.firstCells, go_sem]
      · simp [Builtin.firstCells, go_sem]
    exact ⟨_, _, none, run_append_nothing _ _ _ _ _ iInt uInts infoInt _ 0 0 (Nat.le_refl _) _ hsrc, Row.nil 1 _ _, by simp, f1⟩
  · have hpos : 0 < ds.length := by cases ds with | nil => exact absurd rfl h0 | cons _ _ => simp
    obtain ⟨b, off, e0, hb, _⟩ := hl 0 hpos
    cases e0
    have hc : ∀ i (h : i < ds.length), w.cell? ⟨b, off + i, none⟩ = some (.int .i64 ds[i]) := fun i h => by
      obtain ⟨b', off', e, _, hc⟩ := hl i h
      cases e
      exact hc
    have hsrc : Src Try.prog 1 25 (.slice (some ⟨b, off, none⟩) ds.length cap) ds.length (ints ds) (w.alloc (.cells #[] 3)) := Src.ofSlice _ uInts ⟨b, off, none⟩ ds.length cap _ (by simp [ints]) (fun j u hu => by
        have hj : j < ds.length := by have := (List.getElem?_eq_some_iff.1 hu).1; simpa [ints] using this
        rw [Addr.add_lit, f1.cell (p := ⟨b, off + j, none⟩) hb (by simp), hc j hj]
        simpa [ints, hj] using hu) (by intro u hu; simp only [ints, List.mem_map] at hu; obtain ⟨a, _, rfl⟩ := hu; rfl)
    obtain ⟨v', w', bo', hrun, hr, hb', hf⟩ := (Row.nil 1 (w.alloc (.cells #[] 3)) (some ⟨w.heap.size, 0, none⟩)).append (t := 25) (ty := 25) (e := 3) (i := iInt) (z := zInt) uInts infoInt (by kernel_rfl) (by kernel_rfl) (by omega) (by kernel_rfl) (of_decide_eq_true (by kernel_rfl)) (by omega) hsrc (by omega) hpos
    refine ⟨v', w', bo', hrun, by simpa using hr, fun z hz => ?_, f1.trans (by simpa using hf)⟩
    rcases hb' with h | h
    · rw [h] at hz; cases hz
    · rw [h] at hz; cases hz; exact f1.size
theorem eq_nil (o : Option Addr) (l c : Nat) (w : World) : (binOp .eql 25 (.slice o l c) (.slice none 0 0)).run Try.prog w = .ok (.bool o.isNone) w := by
  simp [binOp, run_equal_slice_nil w _ _ o l c uInts]
theorem clone_any (v : Value) (ds : List Int) (w : World) (hD : NIn w v ds) (hn : ds.length < 1000000) :
    Calls Try.prog 79 #[v] w fun e w' => ∃ v' bo, e = .returned v' ∧ Row 1 w' v' ds.length (ints ds) bo ∧ (∀ z, bo = some z → w.heap.size ≤ z) ∧ Fr [] w w' := by
  have hD' := hD
  obtain ⟨o, cap, rfl, hl⟩ := hD'
  cases o with
  | none =>
    have h0 : ds = [] := by
      cases ds with
      | nil => rfl
      | cons a r => obtain ⟨_, _, e, _⟩ := hl 0 (by simp); cases e
    subst h0
    clear hD hl
    go_enter Try.func79, Try.ntmps79
    go_wp2_with fail
    rw [eq_nil]
    go_wp2_with fail
    go_ret
    exact ⟨_, none, rfl, Row.nil 1 _ none, by simp, Fr.refl _ _⟩
  | some a0 =>
    obtain ⟨v', w', bo, hrun, hr, hb, hf⟩ := copy_run a0 cap ds w hD hn
    replace hrun := Lib.hid hrun
    clear hD hl
    go_enter Try.func79, Try.ntmps79
    go_wp2_with fail
    rw [eq_nil]
    go_wp2_with (first | (at_builtin; refine wpList_append_run _ rfl _ _ _ rfl rfl rfl hrun.out ?_))
    go_ret
    exact ⟨v', bo, rfl, hr, hb, hf⟩
end Go.Proofs.Ytnggimkkjdipmaa
namespace Go.Proofs.Ytnggimkkjdipmaa
open Go.RowKit
set_option linter.unusedVariables false
set_option linter.unusedSimpArgs false
set_option maxHeartbeats 16000000
set_option maxRecDepth 100000
def intK (n : Int) : Value := .int .i64 n
theorem uMapI : Try.prog.underlying 114 = some (.map 3 25) := by kernel_rfl
theorem isKey_intK (k : Int) : MapKept.IsKey (.int .i64) (intK k) := by simp [MapKept.IsKey, intK]
theorem intK_inj (a b : Int) (h : intK a = intK b) : a = b := by unfold intK at h; injection h
/-- The first entry of a map. -/
theorem first_entry (w : World) (b : Nat) (k : Int) (v : Value) (h : w.heap[b]? = some (.map #[] 0)) :
    (Instr.mapUpdate 114 (.map (some b)) (.int .i64 k) v).run Try.prog w = .ok () (w.putObj b (.map #[{ key := .int .i64 k, val := v, born := 0 }] 1)) := by
  have hc := MapKept.run_checkKey (P := Try.prog) (w := w) (k := intK k) uInt (isKey_intK k) false 9999
  have hf := MapKept.run_findKey (P := Try.prog) (w := w) (k := intK k) (l := []) (a := none) uInt rfl
  simp only [intK] at hc hf
  simp [Instr.mapUpdate, run_underlying uMapI, MapKept.run_getObj_map h, hc, hf, MapKept.run_setObj_map _ h, Result.andThen, World.putObj]
theorem first1 (X : World) (b : Nat) (k : Int) (v : Value) (h : b = X.heap.size) :
    (Instr.mapUpdate 114 (.map (some b)) (.int .i64 k) v).run Try.prog (X.alloc (.map #[] 0)).drew = .ok () (((X.alloc (.map #[] 0)).drew).putObj b (.map #[{ key := .int .i64 k, val := v, born := 0 }] 1)) :=
  first_entry _ _ _ _ (by subst h; exact World.alloc_heap_new X _)
theorem first2 (X : World) (o : Obj) (b : Nat) (k : Int) (v : Value) (h : b = X.heap.size) :
    (Instr.mapUpdate 114 (.map (some b)) (.int .i64 k) v).run Try.prog ((X.alloc (.map #[] 0)).alloc o).drew = .ok () ((((X.alloc (.map #[] 0)).alloc o).drew).putObj b (.map #[{ key := .int .i64 k, val := v, born := 0 }] 1)) :=
  first_entry _ _ _ _ (by subst h; exact (Below.heap_alloc _ o _ (by simp)).trans (World.alloc_heap_new X _))
theorem first3 (X : World) (o o2 : Obj) (b : Nat) (k : Int) (v : Value) (h : b = X.heap.size) :
    (Instr.mapUpdate 114 (.map (some b)) (.int .i64 k) v).run Try.prog (((X.alloc (.map #[] 0)).alloc o).alloc o2).drew = .ok () (((((X.alloc (.map #[] 0)).alloc o).alloc o2).drew).putObj b (.map #[{ key := .int .i64 k, val := v, born := 0 }] 1)) :=
  first_entry _ _ _ _ (by subst h; exact (Below.heap_alloc _ o2 _ (by simp; omega)).trans ((Below.heap_alloc _ o _ (by simp)).trans (World.alloc_heap_new X _)))
theorem cell_put (w : World) (b : Nat) (es : Array MapEntry) (n : Nat) (p : Addr) (h : p.block ≠ b) : (w.putObj b (.map es n)).cell? p = w.cell? p := World.cell?_of_block (w := w) (World.putObj_heap_other h)
theorem size_put (w : World) (b : Nat) (o : Obj) : (w.putObj b o).heap.size = w.heap.size := by simp [World.putObj]
theorem hp_alloc (w : World) (o : Obj) : (w.alloc o).heap = w.heap.push o := rfl
theorem hp_drew (w : World) : w.drew.heap = w.heap := rfl
theorem hp_put (w : World) (b : Nat) (o : Obj) : (w.putObj b o).heap = w.heap.setIfInBounds b o := rfl
theorem hn1 (n : Nat) : (n + 1 = n) = False := by simp
theorem hn2 (n : Nat) : (n + 1 + 1 = n) = False := by simp; omega
theorem hn3 (n : Nat) : (n = n + 1) = False := by simp
theorem hn4 (n : Nat) : (n = n + 1 + 1) = False := by simp; omega
theorem hn5 (n : Nat) : (n < n + 1 + 1 + 1) = True := by simp; omega
theorem hn6 (n : Nat) : (n < n + 1 + 1) = True := by simp; omega
theorem hn7 (n : Nat) : (n + 1 < n + 1 + 1 + 1) = True := by simp
/-- walk, in the midst. -/
structure WkI (T : Tb) (w : World) (bt bm : Nat) (r : Value) (L : List (Int × List Int)) (wr : World) (ov : Value) (bo : Option Nat) (M : List (Int × Value)) : Prop where
  pt : Pt wr bt TTab [.int .i64 T.st, .int .i64 T.ev, .int .i64 T.sr, r]
  ord : Row 1 wr ov (L.map (·.1)).length (ints (L.map (·.1))) bo
  mp : MapK intK wr bm M
  keys : M.map (·.1) = L.map (·.1)
  val : ∀ k (h1 : k < M.length) (h2 : k < L.length), NInB (fun b => b ≠ bm ∧ b ∉ bo.toList ∧ bt < b) wr M[k].2 L[k].2
  out : ∀ z, bo = some z → bt < z ∧ z ≠ bm
  gt : bt < bm
  gw : w.heap.size ≤ bt
  fr : Fr [] w wr
theorem WkI.start {T : Tb} {w w0 W : World} {bt bm bo be : Nat} {r : Value} (p0 : Pt w0 bt TTab [.int .i64 T.st, .int .i64 T.ev, .int .i64 T.sr, r]) (f0 : Fr [] w w0) (hgw : w.heap.size ≤ bt)
    (hbo : W.heap[bo]? = some (.cells #[.int .i64 T.sr] 3 (0, 0))) (hbm : W.heap[bm]? = some (.map #[{ key := .int .i64 T.sr, val := .slice (some ⟨be, 0, none⟩) 0 0, born := 0 }] 1)) (hbe : be < W.heap.size) (hf : Fr [] w0 W)
    (h1 : w0.heap.size ≤ bo) (h2 : w0.heap.size ≤ bm) (h3 : w0.heap.size ≤ be) (h4 : bo ≠ bm) (h5 : be ≠ bm) (h6 : be ≠ bo) :
    WkI T w bt bm r [(T.sr, [])] W (.slice (some ⟨bo, 0, none⟩) 1 1) (some bo) [(T.sr, .slice (some ⟨be, 0, none⟩) 0 0)] := by
  have l0 := p0.lt
  have PO : Pt W bo 3 [.int .i64 T.sr] := hbo
  refine ⟨hf.pt p0 (by simp), ?_, ⟨_, _, hbm, ⟨by simp, by simp⟩, rfl⟩, rfl, fun k h1 h2 => ?_, fun z hz => by cases hz; omega, by omega, hgw, f0.trans hf⟩
  · refine .inr ⟨bo, 0, 1, rfl, rfl, by simp, PO.lt, by simp [ints], fun j hj => ?_, fun j hj => ?_⟩
    · obtain rfl : j = 0 := by omega
      exact ⟨by rw [PO.cell]; rfl, PO.free 0⟩
    · obtain rfl : j = 0 := by simp at hj; omega
      rw [PO.cell]; rfl
  · obtain rfl : k = 0 := by simp at h1; omega
    exact ⟨_, 0, rfl, fun i hi => by simp at hi⟩

theorem NInB.frq {q q' : Nat → Prop} {w w' : World} {v : Value} {l : List Int} (h : NInB q w v l) {ex : List Nat} (hf : Fr ex w w') (hx : ∀ b, b < w.heap.size → q b → b ∉ ex ∧ q' b) : NInB q' w' v l := by
  obtain ⟨o, cap, h1, h2⟩ := h
  refine ⟨o, cap, h1, fun i hi => ?_⟩
  obtain ⟨b, off, e, hb, hq, hc⟩ := h2 i hi
  exact ⟨b, off, e, Nat.lt_of_lt_of_le hb hf.size, (hx b hb hq).2, by rw [hf.cell (p := ⟨b, off + i, none⟩) hb (hx b hb hq).1]; exact hc⟩
theorem NInB.nin {q : Nat → Prop} {w : World} {v : Value} {l : List Int} (h : NInB q w v l) : NIn w v l := by
  obtain ⟨o, cap, h1, h2⟩ := h
  refine ⟨o, cap, h1, fun i hi => ?_⟩
  obtain ⟨b, off, e, hb, hq, hc⟩ := h2 i hi
  exact ⟨b, off, e, hb, hc⟩
theorem Row.ninb {q : Nat → Prop} {w : World} {v : Value} {l : List Int} {bo : Option Nat} (h : Row 1 w v l.length (ints l) bo) (hq : ∀ b, bo = some b → q b) : NInB q w v l := by
  rcases h with ⟨_, h2, _, o, rfl⟩ | ⟨b, off, cap, hb, rfl, h3, h4, _, _, h7⟩
  · exact ⟨o, 0, by rw [h2], fun i h => by omega⟩
  · exact ⟨_, cap, rfl, fun i h => ⟨b, off, rfl, h4, hq b hb, by rw [h7 i (by omega)]; simp [ints, h]⟩⟩
/-- append, of a fresh block that is already there. -/
theorem Row.addPt {w : World} {v : Value} {l : List Int} {bo : Option Nat} (h : Row 1 w v l.length (ints l) bo) (hn : l.length < 1000000) {bs : Nat} {x : Int} (hp : Pt w bs 3 [.int .i64 x]) :
    ∃ v' w' bo', (Builtin.append_ #[25, 25] 25 #[v, .slice (some ⟨bs, 0, none⟩) 1 1]).run Try.prog w = .ok v' w' ∧
      Row 1 w' v' (l ++ [x]).length (ints (l ++ [x])) bo' ∧ (bo' = bo ∨ ∃ z, bo' = some z ∧ w.heap.size ≤ z) ∧ Fr bo.toList w w' := by
  have hsrc : Src Try.prog 1 25 (.slice (some ⟨bs, 0, none⟩) 1 1) 1 (ints [x]) w := Src.ofSlice _ uInts ⟨bs, 0, none⟩ 1 1 _ rfl (fun j u hu => by rw [Addr.add_lit, hp.cell, Nat.zero_add]; exact hu) (by intro u hu; simp [ints] at hu; rcases hu with rfl; rfl)
  obtain ⟨v', w', bo', hrun, hr, hb, hf⟩ := h.append (t := 25) (ty := 25) (e := 3) (i := iInt) (z := zInt) uInts infoInt (by kernel_rfl) (by kernel_rfl) (by omega) (by kernel_rfl) (of_decide_eq_true (by kernel_rfl)) hn hsrc (by omega) (by omega)
  refine ⟨v', w', bo', hrun, ?_, ?_, hf⟩
  · rw [ints_app, List.length_append]; exact hr
  · rcases hb with hb | hb
    · exact .inl hb
    · exact .inr ⟨_, hb, Nat.le_refl _⟩
theorem wRow_snoc (word : List Int) (r : Int × Int) : ∀ (rs : List (Int × Int)) (e : Nat) (L : List (Int × List Int)), wRow word e (rs ++ [r]) L = wStep word (wRow word e rs L) (e + rs.length) r
  | [], e, L => rfl
  | x :: rs, e, L => by
    rw [List.cons_append, wRow_cons, wRow_snoc word r rs, wRow_cons, List.length_cons, Nat.add_assoc, Nat.add_comm 1]
theorem wRow_take (word : List Int) (L : List (Int × List Int)) (row : List (Int × Int)) (j : Nat) (h : j < row.length) : wRow word 0 (row.take (j + 1)) L = wStep word (wRow word 0 (row.take j) L) j row[j] := by
  rw [List.take_succ_eq_append_getElem h, wRow_snoc, List.length_take, Nat.min_eq_left (by omega), Nat.zero_add]
theorem uMapI_zero : ∀ w, (zeroValue 25).run Try.prog w = .ok (.slice none 0 0) w := by
  intro w
  have hz : Try.t25.zero = some (.slice none 0 0) := by kernel_rfl
  simp [zeroValue, run_underlying uInts, go_sem, hz]
theorem WkI.mlen {T : Tb} {w : World} {bt bm : Nat} {r : Value} {L : List (Int × List Int)} {wr : World} {ov : Value} {bo : Option Nat} {M : List (Int × Value)} (h : WkI T w bt bm r L wr ov bo M) : M.length = L.length := by
  have := congrArg List.length h.keys
  simpa using this
theorem WkI.step {T : Tb} {w : World} {bt bm : Nat} {r : Value} {L : List (Int × List Int)} {wr : World} {ov : Value} {bo : Option Nat} {M : List (Int × Value)} (h : WkI T w bt bm r L wr ov bo M)
    {x : Int} {word : List Int} {w8 w9 w10 : World} {v' ov' : Value} {b8 bo' : Option Nat} (f8 : Fr [] wr w8) (r8 : Row 1 w8 v' word.length (ints word) b8) (hb8 : ∀ z, b8 = some z → wr.heap.size ≤ z)
    (m9 : MapK intK w9 bm (M ++ [(x, v')])) (f9 : Fr [bm] w8 w9) (r10 : Row 1 w10 ov' (L.map (·.1) ++ [x]).length (ints (L.map (·.1) ++ [x])) bo') (hb : bo' = bo ∨ ∃ z, bo' = some z ∧ w9.heap.size ≤ z) (f10 : Fr bo.toList w9 w10) :
    WkI T w bt bm r (L ++ [(x, word)]) w10 ov' bo' (M ++ [(x, v')]) := by
  have l1 := h.pt.lt
  have l2 := h.mp.lt
  have l3 : ∀ z, bo = some z → z < wr.heap.size := fun z hz => by have h3 := h.ord; rw [hz] at h3; exact h3.lt
  have s8 := f8.size
  have s9 := f9.size
  have s10 := f10.size
  have hgt := h.gt
  have hgw := h.gw
  refine ⟨?_, ?_, m9.fr f10 (fun hm => by have := h.out bm (by simpa using hm); omega), ?_, fun k h1 h2 => ?_, fun z hz => ?_, hgt, hgw, ?_⟩
  · exact f10.pt (f9.pt (f8.pt h.pt (by simp)) (by simp; omega)) (fun hm => by have := h.out bt (by simpa using hm); omega)
  · have : (L ++ [(x, word)]).map (·.1) = L.map (·.1) ++ [x] := by simp
    rw [this]; exact r10
  · rw [List.map_append, List.map_append, h.keys]; rfl
  · have hml := h.mlen
    have key : ∀ b, b < w9.heap.size → (b ∉ bo.toList) → b ∉ bo'.toList := fun b hb1 hb2 hm => by
      rcases hb with e | ⟨z, e, hz⟩
      · rw [e] at hm; exact hb2 hm
      · rw [e] at hm; simp at hm; omega
    by_cases hk : k < M.length
    · rw [List.getElem_append_left hk, List.getElem_append_left (by omega : k < L.length)]
      have hv := h.val k hk (by omega)
      have hv8 := hv.frq f8 (q' := fun b => b ≠ bm ∧ b ∉ bo.toList ∧ bt < b) (fun b _ hq => ⟨by simp, hq⟩)
      have hv9 := hv8.frq f9 (q' := fun b => b ≠ bm ∧ b ∉ bo.toList ∧ bt < b) (fun b _ hq => ⟨by simp; exact hq.1, hq⟩)
      exact hv9.frq f10 (fun b hb1 hq => ⟨hq.2.1, hq.1, key b hb1 hq.2.1, hq.2.2⟩)
    · obtain rfl : k = M.length := by simp at h1; omega
      have e1 : (M ++ [(x, v')])[M.length] = (x, v') := by simp
      have e2 : (L ++ [(x, word)])[M.length]'(by simp; omega) = (x, word) := by
        rw [List.getElem_append_right (by omega)]; simp [hml]
      rw [e1, e2]
      have hv8 : NInB (fun b => b ≠ bm ∧ b ∉ bo.toList ∧ bt < b) w8 v' word := r8.ninb (fun b hb2 => by
        have := hb8 b hb2
        refine ⟨by omega, fun hm => ?_, by omega⟩
        have := l3 b (by simpa using hm); omega)
      have hv9 := hv8.frq f9 (q' := fun b => b ≠ bm ∧ b ∉ bo.toList ∧ bt < b) (fun b _ hq => ⟨by simp; exact hq.1, hq⟩)
      exact hv9.frq f10 (fun b hb1 hq => ⟨hq.2.1, hq.1, key b hb1 hq.2.1, hq.2.2⟩)
  · rcases hb with e | ⟨z', e, hz'⟩
    · rw [e] at hz; exact h.out z hz
    · rw [e] at hz; cases hz; omega
  · refine (((h.fr.trans f8).step f9 (fun b hb1 => .inr ?_)).step f10 (fun b hb1 => .inr ?_))
    · simp at hb1; omega
    · have := h.out b (by simpa using hb1); omega
theorem WkI.frz {T : Tb} {w : World} {bt bm : Nat} {r : Value} {L : List (Int × List Int)} {wr w' : World} {ov : Value} {bo : Option Nat} {M : List (Int × Value)} (h : WkI T w bt bm r L wr ov bo M) (f : Fr [] wr w') : WkI T w bt bm r L w' ov bo M :=
  ⟨f.pt h.pt (by simp), h.ord.fr f (by simp), h.mp.fr f (by simp), h.keys, fun k h1 h2 => (h.val k h1 h2).frq f (fun b _ hq => ⟨by simp, hq⟩), h.out, h.gt, h.gw, h.fr.trans f⟩
theorem kget_app {κ : Type} [DecidableEq κ] : ∀ (M r : List (κ × Value)) (k : κ) (v : Value), kget M k = some v → kget (M ++ r) k = some v
  | x :: M, r, k, v, h => by
    by_cases e : x.1 = k
    · simp [kget, e] at h ⊢; exact h
    · simp [kget, e] at h ⊢; exact kget_app M r k v h
theorem WkI.get {T : Tb} {w : World} {bt bm : Nat} {r : Value} {L : List (Int × List Int)} {wr : World} {ov : Value} {bo : Option Nat} {M : List (Int × Value)} (h : WkI T w bt bm r L wr ov bo M) (hO : WOk T L) (i : Nat) (s : Int) (word : List Int) (hi : L[i]? = some (s, word)) :
    ∃ vw, kget M s = some vw ∧ NInB (fun b => b ≠ bm ∧ b ∉ bo.toList ∧ bt < b) wr vw word := by
  obtain ⟨h1, h2⟩ := List.getElem?_eq_some_iff.1 hi
  have h3 : i < M.length := by have := h.mlen; omega
  have hv := h.val i h3 h1
  rw [h2] at hv
  refine ⟨M[i].2, ?_, hv⟩
  have hk : M[i].1 = s := by
    have := congrArg (·[i]?) h.keys
    simp [h3, hi] at this
    exact this
  have hn : (M.map (·.1)).Nodup := by rw [h.keys]; exact hO.nd
  have := kget_at M i h3 hn
  rw [hk] at this
  exact this
/-- The word, put into the map. -/
theorem WkI.put {T : Tb} {w : World} {bt bm : Nat} {r : Value} {L : List (Int × List Int)} {wr : World} {ov : Value} {bo : Option Nat} {M : List (Int × Value)} (h : WkI T w bt bm r L wr ov bo M)
    {x : Int} (hx : x ∉ L.map (·.1)) (word : List Int) (hn : word.length < 1000000) (W : World) (v2 : Value) (b2 : Option Nat) (bs : Nat) (e : Int) (f : Fr [] wr W) (hr : Row 1 W v2 word.length (ints word) b2) (hb : ∀ z, b2 = some z → wr.heap.size ≤ z) (hp : Pt W bs 3 [.int .i64 e]) :
    ∃ v5 w5 w6 b5, (Builtin.append_ #[25, 25] 25 #[v2, .slice (some ⟨bs, 0, none⟩) 1 1]).run Try.prog W = .ok v5 w5 ∧
      (Instr.mapUpdate 114 (.map (some bm)) (.int .i64 x) v5).run Try.prog w5 = .ok () w6 ∧ Fr [] wr w5 ∧ Row 1 w5 v5 (word ++ [e]).length (ints (word ++ [e])) b5 ∧ (∀ z, b5 = some z → wr.heap.size ≤ z) ∧
      MapK intK w6 bm (M ++ [(x, v5)]) ∧ Fr [bm] w5 w6 := by
  obtain ⟨v5, w5, b5, happ, hr5, hb5, f5⟩ := hr.addPt hn hp
  have F5 : Fr [] wr w5 := f.step f5 (fun z hz => .inr (hb z (by simpa using hz)))
  obtain ⟨w6, UP, M6, f6⟩ := (h.mp.fr F5 (by simp)).update (P := Try.prog) (t := 114) uMapI uInt isKey_intK intK_inj x v5
  rw [kset_new M x v5 (by rw [h.keys]; exact hx)] at M6
  refine ⟨v5, w5, w6, b5, happ, UP, F5, hr5, fun z hz => ?_, M6, f6⟩
  rcases hb5 with e' | ⟨z', e', hz'⟩
  · rw [e'] at hz; exact hb z hz
  · rw [e'] at hz; cases hz; have := f.size; omega
end Go.Proofs.Ytnggimkkjdipmaa
namespace Go.Proofs.Ytnggimkkjdipmaa
open Go.RowKit
set_option linter.unusedVariables false
set_option linter.unusedSimpArgs false
set_option maxHeartbeats 16000000
set_option maxRecDepth 100000
theorem walk_any (T : Tb) (v : Value) (w : World) (hT : TIn w v T) (hV : VT T) :
    Calls Try.prog 75 #[v] w fun e w' => ∃ r bt bm ov bo M, e = .returned (.tuple #[ov, .map (some bm)]) ∧ WkI T w bt bm r (walkT T) w' ov bo M ∧ WOk T (walkT T) := by
  obtain ⟨r, rfl, hR⟩ := hT
  have hval : T.val r = .agg #[.int .i64 T.st, .int .i64 T.ev, .int .i64 T.sr, r] := rfl
  rw [hval]
  clear hval
  have hst := hV.st; have hrl := hV.rows
  have hlen30 : T.rows.length ≤ 30 := by omega
  obtain ⟨o, cap, rfl, hl⟩ := hR
  obtain ⟨w0, hw0⟩ : ∃ x, w.alloc (.cells #[.int .i64 T.st, .int .i64 T.ev, .int .i64 T.sr, .slice o T.rows.length cap] TTab) = x := ⟨_, rfl⟩
  have P0 := Pt.newA w TTab #[.int .i64 T.st, .int .i64 T.ev, .int .i64 T.sr, .slice o T.rows.length cap]
  rw [hw0] at P0
  have F0 : Fr [] w w0 := by rw [← hw0]; exact (Fr.refl [] w).alloc _
  obtain ⟨bt, hbt⟩ : ∃ x, w.heap.size = x := ⟨_, rfl⟩
  rw [hbt] at P0
  have k0 := P0.cell
  have l0 := P0.lt
  replace hl := Lib.hid hl; replace P0 := Lib.hid P0; replace F0 := Lib.hid F0; replace hrl := Lib.hid hrl; replace hst := Lib.hid hst
  go_enter Try.func75, Try.ntmps75
  go_wp2_with fail
  have hmm := fun t w => run_makeMap (P := Try.prog) t w
  have hi1 := first1
  have hi2 := first2
  have hi3 := first3
  have hz := size_put
  have l1 : bt < w0.heap.size + 1 := by omega
  have l2 : bt < w0.heap.size + 1 + 1 := by omega
  have l3 : bt < w0.heap.size + 2 := by omega
  have l4 : ¬ bt = w0.heap.size := by omega
  have l5 : ¬ bt = w0.heap.size + 1 := by omega
  have l6 : ¬ bt = w0.heap.size + 1 + 1 := by omega
  have l7 : ¬ bt = w0.heap.size + 2 := by omega
  have hc0 : ∀ (W : World) es n, (W.putObj w0.heap.size (.map es n)).cell? ⟨bt, 2, none⟩ = W.cell? ⟨bt, 2, none⟩ := fun W es n => cell_put _ _ _ _ _ (by show bt ≠ _; omega)
  have hc1 : ∀ (W : World) es n, (W.putObj (w0.heap.size + 1) (.map es n)).cell? ⟨bt, 2, none⟩ = W.cell? ⟨bt, 2, none⟩ := fun W es n => cell_put _ _ _ _ _ (by show bt ≠ _; omega)
  have hc2 : ∀ (W : World) es n, (W.putObj (w0.heap.size + 1 + 1) (.map es n)).cell? ⟨bt, 2, none⟩ = W.cell? ⟨bt, 2, none⟩ := fun W es n => cell_put _ _ _ _ _ (by show bt ≠ _; omega)
  have hwb : w.heap.size ≤ bt := by omega
  go_cut [2, 3] from 9 to 16 (fun v2 v3 wx => ∃ (bo bm be : Nat), v2 = .slice (some ⟨bo, 0, none⟩) 1 1 ∧ v3 = .map (some bm) ∧ WkI T w bt bm (.slice o T.rows.length cap) [(T.sr, [])] wx v2 (some bo) [(T.sr, .slice (some ⟨be, 0, none⟩) 0 0)])
  case first =>
    go_region
    all_goals
      go_wp2_with fail
      go_meet
      case rel =>
        first
        | (refine ⟨_, _, w0.heap.size + 1 + 1, rfl, rfl, WkI.start P0.out F0.out hwb ?_ ?_ ?_ ?_ ?_ ?_ ?_ ?_ ?_ ?_⟩ <;> first | omega | (simp [hp_alloc, hp_drew, hp_put, Array.getElem?_push, Array.getElem?_setIfInBounds, Array.getElem_push, Array.getElem_setIfInBounds, hn1, hn2, hn3, hn4, hn5, hn6, hn7]; done) | (simp [hp_alloc, hp_drew, hp_put, Array.getElem?_push, Array.getElem?_setIfInBounds, Array.getElem_push, Array.getElem_setIfInBounds, hn1, hn2, hn3, hn4, hn5, hn6, hn7] <;> first | omega | (intro hh; exfalso; omega)) | ((repeat' (first | exact Fr.refl _ _ | refine Fr.alloc ?_ _ | refine Fr.drew ?_ | refine Fr.putObj ?_ (by omega) _)); done))
        | (refine ⟨_, _, w0.heap.size + 1, rfl, rfl, WkI.start P0.out F0.out hwb ?_ ?_ ?_ ?_ ?_ ?_ ?_ ?_ ?_ ?_⟩ <;> first | omega | (simp [hp_alloc, hp_drew, hp_put, Array.getElem?_push, Array.getElem?_setIfInBounds, Array.getElem_push, Array.getElem_setIfInBounds, hn1, hn2, hn3, hn4, hn5, hn6, hn7]; done) | (simp [hp_alloc, hp_drew, hp_put, Array.getElem?_push, Array.getElem?_setIfInBounds, Array.getElem_push, Array.getElem_setIfInBounds, hn1, hn2, hn3, hn4, hn5, hn6, hn7] <;> first | omega | (intro hh; exfalso; omega)) | ((repeat' (first | exact Fr.refl _ _ | refine Fr.alloc ?_ _ | refine Fr.drew ?_ | refine Fr.putObj ?_ (by omega) _)); done))
        | (refine ⟨_, _, w0.heap.size, rfl, rfl, WkI.start P0.out F0.out hwb ?_ ?_ ?_ ?_ ?_ ?_ ?_ ?_ ?_ ?_⟩ <;> first | omega | (simp [hp_alloc, hp_drew, hp_put, Array.getElem?_push, Array.getElem?_setIfInBounds, Array.getElem_push, Array.getElem_setIfInBounds, hn1, hn2, hn3, hn4, hn5, hn6, hn7]; done) | (simp [hp_alloc, hp_drew, hp_put, Array.getElem?_push, Array.getElem?_setIfInBounds, Array.getElem_push, Array.getElem_setIfInBounds, hn1, hn2, hn3, hn4, hn5, hn6, hn7] <;> first | omega | (intro hh; exfalso; omega)) | ((repeat' (first | exact Fr.refl _ _ | refine Fr.alloc ?_ _ | refine Fr.drew ?_ | refine Fr.putObj ?_ (by omega) _)); done))
  case rest =>
    obtain ⟨bo0, bm, be, rfl, rfl, I0⟩ := hcut
    replace I0 := Lib.hid I0
    clear hmm hi1 hi2 hi3 hz hc0 hc1 hc2 l1 l2 l3 l4 l5 l6 l7 k0 hw0
    go_wp2_with fail
    go_loopg [2, 4] 40 (fun k v2 v4 wr => ∃ (i : Nat) (bo : Option Nat) (L : List (Int × List Int)) (M : List (Int × Value)), k + i = 40 ∧ v4 = .int .i64 i ∧ walkF T k i L = walkT T ∧ i ≤ L.length ∧ WOk T L ∧ WkI T w bt bm (.slice o T.rows.length cap) L wr v2 bo M)
    case atStart => exact ⟨0, _, _, _, rfl, rfl, rfl, by simp, WOk.start hV, I0.out⟩
    case round =>
      obtain ⟨i, bo, L, M, hk, rfl, hW, hi, hO, hI⟩ := hrel
      obtain ⟨wo, rfl⟩ : ∃ wo : World, wo = wr := ⟨_, rfl⟩
      obtain ⟨gq, rfl⟩ : ∃ g : Nat, g = gk := ⟨_, rfl⟩
      obtain ⟨oo, nL, co, rfl, hnL⟩ : ∃ oo n co, u2 = .slice oo n co ∧ n = L.length := by
        obtain ⟨oo, co, e⟩ := hI.ord.len
        exact ⟨oo, _, co, e, by simp⟩
      have hLe : L.length ≤ 30 := by have := hO.le; have := hst.out; omega
      replace hnL := Lib.hid hnL
      by_cases hlt : i < L.length
      · have hltI : (i : Int) < nL := by have := hnL.out; omega
        obtain ⟨⟨s0, word⟩, hLi⟩ : ∃ x, L[i] = x := ⟨_, rfl⟩
        have hs0 := hO.rng L[i] (List.getElem_mem hlt)
        have hwl := hO.len i hlt
        rw [hLi] at hs0 hwl
        dsimp only at hs0 hwl
        obtain ⟨s, rfl⟩ : ∃ s : Nat, s0 = s := ⟨s0.toNat, by omega⟩
        have hsr : s < T.rows.length := by have := hrl.out; omega
        have hsrI : (s : Int) < T.rows.length := by omega
        obtain ⟨B, off, u, rfl, hB, hcB, o2, cap2, rfl, hu⟩ := hl.out s hsr
        have cB := hI.fr.cell (p := ⟨B, off + s, none⟩) hB (by simp)
        rw [hcB] at cB
        obtain ⟨row, hrow⟩ : ∃ row, T.rows[s] = row := ⟨_, rfl⟩
        have hrl2 := hV.row _ (List.getElem_mem hsr)
        have hcells := hV.cell _ (List.getElem_mem hsr)
        have hev12 := hV.ev
        rw [hrow] at hu hrl2 hcells cB
        have hrow12 : row.length ≤ 12 := by omega
        have hW2 : walkF T (gq - 1) (i + 1) (wRow word 0 row L) = walkT T := by
          rw [← hW]
          obtain ⟨g', rfl⟩ : ∃ g', gq = g' + 1 := ⟨gq - 1, by omega⟩
          conv => rhs; unfold walkF
          rw [if_pos hlt]
          have e1 : L.getD i (0, []) = ((s : Int), word) := by rw [List.getD_eq_getElem?_getD, List.getElem?_eq_getElem hlt, hLi]; rfl
          have e2 : T.rows.getD ((s : Int)).toNat [] = row := by rw [List.getD_eq_getElem?_getD, show ((s : Int)).toNat = s by omega, List.getElem?_eq_getElem hsr, hrow]; rfl
          unfold wRound
          rw [e1]
          dsimp only
          rw [e2]; rfl
        obtain ⟨bO, oO, hoo, hbO, cO⟩ : ∃ bO oO, oo = some ⟨bO, oO, none⟩ ∧ bo = some bO ∧ wo.cell? ⟨bO, oO + i, none⟩ = some (.int .i64 (s : Int)) := by
          rcases hI.ord with ⟨_, h2, _, _⟩ | ⟨b, off, cap, hb, e, h3, h4, _, _, h7⟩
          · simp at h2; subst h2; simp at hlt
          · cases e
            refine ⟨b, off, rfl, hb, ?_⟩
            rw [h7 i (by simpa using hlt)]
            simp [ints, hLi, hlt]
        subst hoo
        have kt := hI.pt.cell
        replace hu := Lib.hid hu; replace hrl2 := Lib.hid hrl2; replace hcells := Lib.hid hcells; replace hW2 := Lib.hid hW2; replace hW := Lib.hid hW; replace hO := Lib.hid hO; replace hI := Lib.hid hI; replace hrow := Lib.hid hrow; replace hLi := Lib.hid hLi; replace hcB := Lib.hid hcB; replace hbO := Lib.hid hbO; replace hLe := Lib.hid hLe
        go_wp2_with fail
        go_quiet (fail)
        go_wp2_with fail
        clear kt cO cB
        go_loopg [2, 32] (row.length + 1) (fun k v2 v32 wr => ∃ (j : Nat) (bo : Option Nat) (L2 : List (Int × List Int)) (M : List (Int × Value)), j ≤ row.length ∧ k + j = row.length + 1 ∧ v32 = .int .i64 j ∧ wRow word 0 (row.take j) L = L2 ∧ L.length ≤ L2.length ∧ L2[i]? = some ((s : Int), word) ∧ WOk T L2 ∧ WkI T w bt bm (.slice (some ⟨B, off, none⟩) T.rows.length cap) L2 wr v2 bo M)
        case atStart => exact ⟨0, _, _, _, by omega, by omega, rfl, rfl, Nat.le_refl _, by show L[i]? = _; rw [List.getElem?_eq_getElem hlt, hLi.out], hO.out, hI.out.frz ((Fr.refl _ _).drewN _)⟩
        case round =>
          obtain ⟨j, bo2, L2, M2, hj, hk3, rfl, hWj, hL2, hLi2, hO2, hI2⟩ := hrel
          by_cases hltj : j < row.length
          · have hltJ : (j : Int) < row.length := by omega
            obtain ⟨B2, off2, rfl, hB2, ha, hb⟩ := hu.out j hltj
            have hce := hcells.out _ (List.getElem_mem hltj)
            have hsn := wRow_take word L row j hltj
            rw [hWj] at hsn
            obtain ⟨⟨x1, x2⟩, hx⟩ : ∃ x, row[j] = x := ⟨_, rfl⟩
            rw [hx] at ha hb hce hsn
            dsimp only at ha hb hce
            have ca := hI2.fr.cell (p := ⟨B2, off2 + j * 2, none⟩) hB2 (by simp)
            rw [ha] at ca
            have cb := hI2.fr.cell (p := ⟨B2, off2 + j * 2 + 1, none⟩) hB2 (by simp)
            rw [hb] at cb
            obtain ⟨w4, hw4⟩ : ∃ x, wr.alloc (.cells #[.int .i64 x1, .int .i64 x2] TRow) = x := ⟨_, rfl⟩
            have P4 := Pt.newA wr TRow #[.int .i64 x1, .int .i64 x2]
            rw [hw4] at P4
            have F4 : Fr [] wr w4 := by rw [← hw4]; exact (Fr.refl [] wr).alloc _
            have hbxw : wr.heap.size < w4.heap.size := P4.lt
            have hI4 := hI2.frz F4
            obtain ⟨bx, hbx⟩ : ∃ x, wr.heap.size = x := ⟨_, rfl⟩
            have lM2 : bm < wr.heap.size := hI2.mp.lt
            rw [hbx] at P4 hbxw lM2
            have k4 := P4.cell
            obtain ⟨hc1, hc2, hc3, hc4, hc5⟩ := hce
            have LO := hI4.mp.lookOk (P := Try.prog) (t := 114) uMapI uInt isKey_intK intK_inj (uMapI_zero _) x1
            rw [kget_isSome, hI4.keys] at LO
            obtain ⟨lv, hlv⟩ : ∃ v, (kget M2 x1).getD (Value.slice none 0 0) = v := ⟨_, rfl⟩
            rw [hlv] at LO
            simp only [intK] at LO
            clear ha hb hI2
            replace hlv := Lib.hid hlv; replace hx := Lib.hid hx; replace hWj := Lib.hid hWj; replace hc5 := Lib.hid hc5; replace P4 := Lib.hid P4; replace F4 := Lib.hid F4; replace hI4 := Lib.hid hI4; replace hLi2 := Lib.hid hLi2
            by_cases hneg : x1 < 0
            · have hst2 : wRow word 0 (row.take (j + 1)) L = L2 := by
                rw [hsn]; unfold wStep; rw [if_neg (by dsimp only; omega)]
              have hge : ¬ 0 ≤ x1 := by omega
              replace hst2 := Lib.hid hst2; replace hO2 := Lib.hid hO2
              clear hsn
              go_wp2_with fail
              go_roundg (gk - 1)
              case measure => omega
              case rel => exact ⟨j + 1, _, _, _, by omega, by omega, by go_num, hst2.out, by omega, hLi2.out, hO2.out, hI4.out⟩
            · have hge : 0 ≤ x1 := by omega
              by_cases hin : x1 ∈ L2.map (·.1)
              · have hst2 : wRow word 0 (row.take (j + 1)) L = L2 := by
                  rw [hsn]; unfold wStep; rw [any_keys]; rw [if_neg (by simp only [decide_eq_true hin, not_true_eq_false, and_false, not_false_eq_true])]
                rw [decide_eq_true hin] at LO
                replace hst2 := Lib.hid hst2; replace hO2 := Lib.hid hO2; replace hin := Lib.hid hin
                clear hsn
                go_wp2_with fail
                go_roundg (gk - 1)
                case measure => omega
                case rel => exact ⟨j + 1, _, _, _, by omega, by omega, by go_num, hst2.out, by omega, hLi2.out, hO2.out, hI4.out⟩
              · rw [decide_eq_false hin] at LO
                have hst2 : wRow word 0 (row.take (j + 1)) L = L2 ++ [(x1, word ++ [(j : Int)])] := by
                  rw [hsn]; unfold wStep; rw [any_keys]; rw [if_pos (by simp only [decide_eq_false hin]; exact ⟨hge, by simp⟩)]
                have hO3 := hO2.step x1 (word ++ [(j : Int)]) hge hc2 (by rw [any_keys, decide_eq_false hin]; simp) (by rw [List.length_append, List.length_singleton]; omega)
                have hL3 : (L2 ++ [(x1, word ++ [(j : Int)])])[i]? = some ((s : Int), word) := by
                  rw [List.getElem?_append_left (by omega)]; exact hLi2.out
                have hL4 : L.length ≤ (L2 ++ [(x1, word ++ [(j : Int)])]).length := by rw [List.length_append]; omega
                have hword : word.length < 1000000 := by omega
                obtain ⟨vw, hvw, hvn⟩ := hI4.out.get hO2 i s word hLi2.out
                obtain ⟨oo, n2, co2, rfl, hn2⟩ : ∃ oo n co, u2 = .slice oo n co ∧ n = L2.length := by
                  obtain ⟨oo, co, e⟩ := hI4.out.ord.len
                  exact ⟨oo, _, co, e, by simp⟩
                have hiI : (i : Int) < (n2 : Int) := by omega
                obtain ⟨bO, oO, hoo, hbO, cO⟩ : ∃ bO oO, oo = some ⟨bO, oO, none⟩ ∧ bo2 = some bO ∧ w4.cell? ⟨bO, oO + i, none⟩ = some (.int .i64 (s : Int)) := by
                  obtain ⟨q1, q2⟩ := List.getElem?_eq_some_iff.1 hLi2.out
                  rcases hI4.out.ord with ⟨_, h2, _, _⟩ | ⟨b, off, cap, hb, e, h3, h4, _, _, h7⟩
                  · simp at h2; subst h2; simp at q1
                  · cases e
                    refine ⟨b, off, rfl, hb, ?_⟩
                    rw [h7 i (by simpa using q1)]
                    simp [ints, q1, q2]
                subst hoo
                subst hbO
                have lO : bO < w4.heap.size := hI4.out.ord.lt
                have oO' := hI4.out.out bO rfl
                have lM := hI4.out.mp.lt
                have CL : ∀ W, Fr [] w4 W → Calls Try.prog 79 #[vw] W fun e w' => ∃ v' b', e = .returned v' ∧ Row 1 w' v' word.length (ints word) b' ∧ (∀ z, b' = some z → w4.heap.size ≤ z) ∧ Fr [] w4 w' ∧ Fr [] W w' := fun W f =>
                  (clone_any vw word W (hvn.nin.fr f) hword).mono (fun e w' h => by
                    obtain ⟨v', b', h1, h2, h3, h4⟩ := h
                    exact ⟨v', b', h1, h2, fun z hz => by have := h3 z hz; have := f.size; omega, f.trans h4, h4⟩)
                have KA : ∀ W, Fr [] w4 W → W.cell? ⟨bx, 0, none⟩ = some (.int .i64 x1) ∧ W.cell? ⟨bO, oO + i, none⟩ = some (.int .i64 (s : Int)) ∧ (Instr.lookup 114 (.map (some bm)) (.int .i64 (s : Int)) false).run Try.prog W = .ok vw W := fun W f => by
                  refine ⟨(f.pt P4.out (by simp)).cell 0, ?_, ?_⟩
                  · rw [f.cell (p := ⟨bO, oO + i, none⟩) lO (by simp)]; exact cO
                  · have := (hI4.out.mp.fr f (by simp)).look (P := Try.prog) (t := 114) uMapI uInt isKey_intK intK_inj (uMapI_zero _) (s : Int)
                    rw [hvw] at this
                    exact this
                have PUT := fun (W : World) (v2 : Value) (b2 : Option Nat) (bs : Nat) (f : Fr [] w4 W) hr hb hp => hI4.out.put hin word hword W v2 b2 bs (j : Int) f hr hb hp
                have KZ : ∀ w5 w6 v5, Fr [] w4 w5 → MapK intK w6 bm (M2 ++ [(x1, v5)]) → Fr [bm] w5 w6 → w6.cell? ⟨bx, 0, none⟩ = some (.int .i64 x1) ∧ w6.cell? ⟨bO, oO + i, none⟩ = some (.int .i64 (s : Int)) ∧ (Instr.lookup 114 (.map (some bm)) (.int .i64 (s : Int)) false).run Try.prog w6 = .ok vw w6 := fun w5 w6 v5 F5 M6 f6 => by
                  obtain ⟨q1, q2, _⟩ := KA w5 F5
                  refine ⟨?_, ?_, ?_⟩
                  · rw [f6.cell (p := ⟨bx, 0, none⟩) (Nat.lt_of_lt_of_le hbxw F5.size) (by simp; omega)]; exact q1
                  · rw [f6.cell (p := ⟨bO, oO + i, none⟩) (Nat.lt_of_lt_of_le lO F5.size) (by simp; omega)]; exact q2
                  · have := M6.look (P := Try.prog) (t := 114) uMapI uInt isKey_intK intK_inj (uMapI_zero _) (s : Int)
                    rw [kget_app _ _ _ _ hvw] at this
                    exact this
                obtain ⟨SS, hSS⟩ : ∃ S : World → Prop, S = fun w' => w'.cell? ⟨bx, 0, none⟩ = some (.int .i64 x1) ∧ w'.cell? ⟨bO, oO + i, none⟩ = some (.int .i64 (s : Int)) ∧ (Instr.lookup 114 (.map (some bm)) (.int .i64 (s : Int)) false).run Try.prog w' = .ok vw w' := ⟨_, rfl⟩
                replace CL := Lib.hid CL; replace KA := Lib.hid KA; replace PUT := Lib.hid PUT; replace KZ := Lib.hid KZ; replace hst2 := Lib.hid hst2; replace hO2 := Lib.hid hO2; replace hO3 := Lib.hid hO3; replace hL3 := Lib.hid hL3; replace hL4 := Lib.hid hL4; replace hin := Lib.hid hin; replace hvw := Lib.hid hvw; replace hvn := Lib.hid hvn; replace hword := Lib.hid hword
                replace hn2 := Lib.hid hn2
                clear hsn cO hSS SS
                have h0i : (0 : Int) ≤ (i : Int) := by omega
                have h1i : (i : Int) ≤ (n2 : Int) := by omega
                go_upto_region 10 with fail
                go_region_held3 (fun w' => w'.cell? ⟨bx, 0, none⟩ = some (.int .i64 x1) ∧ w'.cell? ⟨bO, oO + i, none⟩ = some (.int .i64 (s : Int)) ∧ (Instr.lookup 114 (.map (some bm)) (.int .i64 (s : Int)) false).run Try.prog w' = .ok vw w')
                  (first | exact KA.out _ ((Fr.refl _ _).drew) | exact KZ1.out | exact KA.out _ F5.out | exact KA.out _ F2.out | exact KA.out _ (F2.out.alloc _) | exact KA.out _ (((Fr.refl _ _).alloc _).drew) | exact KA.out _ (((Fr.refl _ _).drew).alloc _))
                  ((first
                    | (obtain ⟨v5, w5, w6, b5, happ, UP, F5, hr5, hb5, M6, f6⟩ := PUT.out _ v2 b2 _ (F2.out.alloc _) (hR2.out.fr ((Fr.refl [] w2).alloc _) (by simp)) hb2.out (Pt.newA w2 3 #[.int .i64 (j : Int)])
                       have KZ1 := Lib.hid (KZ.out _ _ _ F5 M6 f6)
                       replace F5 := Lib.hid F5; replace hr5 := Lib.hid hr5; replace hb5 := Lib.hid hb5; replace M6 := Lib.hid M6; replace f6 := Lib.hid f6
                       refine step_append_run rfl _ _ _ rfl (v := v2) rfl (xv := .slice (some ⟨w2.heap.size, 0, none⟩) 1 1) rfl happ ?_
                       clear happ)
                    | (obtain ⟨v5, w5, w6, b5, happ, UP, F5, hr5, hb5, M6, f6⟩ := PUT.out _ v2 b2 _ F2.out hR2.out hb2.out (f2.out.pt (Pt.newA w4 3 #[.int .i64 (j : Int)]).drew (by simp))
                       have KZ1 := Lib.hid (KZ.out _ _ _ F5 M6 f6)
                       replace F5 := Lib.hid F5; replace hr5 := Lib.hid hr5; replace hb5 := Lib.hid hb5; replace M6 := Lib.hid M6; replace f6 := Lib.hid f6
                       refine step_append_run rfl _ _ _ rfl (v := v2) rfl (xv := .slice (some ⟨w4.heap.size, 0, none⟩) 1 1) rfl happ ?_
                       clear happ)
                    | (go_at_call 79
                       refine (CL.out _ (by first | exact (Fr.refl _ _).drew | exact ((Fr.refl _ _).alloc _).drew | exact ((Fr.refl _ _).drew).alloc _)).mono ?_
                       rintro e w2 ⟨v2, b2, rfl, hR2, hb2, F2, f2⟩
                       replace hR2 := Lib.hid hR2; replace hb2 := Lib.hid hb2; replace F2 := Lib.hid F2; replace f2 := Lib.hid f2)))
                all_goals
                  have ord6 := (hI4.out.ord.fr F5.out (by simp)).fr f6.out (fun z hz => by cases hz; simp; omega)
                  obtain ⟨ov', w10, bo', happ2, hr10, hb10, f10⟩ := ord6.one (by have h9 := hO2.out.le; have h8 := hst.out; rw [List.length_map]; omega) x1
                  have NX := Lib.hid (hI4.out.step (word := word ++ [(j : Int)]) F5.out hr5.out hb5.out M6.out f6.out hr10 hb10 f10)
                  have c6 := KZ1.out.1
                  replace happ2 := Lib.hid happ2
                  clear hr10 hb10 f10 ord6 UP
                  go_wp2_with (first | (at_builtin; refine wpList_append_run _ rfl _ _ _ rfl rfl rfl happ2.out ?_))
                  go_roundg (gk - 1)
                  case measure => omega
                  case rel => exact ⟨j + 1, _, _, _, by omega, by omega, by go_num, hst2.out, by have := hL4.out; simp at this ⊢; omega, hL3.out, hO3.out, NX.out⟩
          · have hltJ : ¬ (j : Int) < row.length := by omega
            rw [List.take_of_length_le (by omega)] at hWj
            replace hI2 := Lib.hid hI2; replace hO2 := Lib.hid hO2; replace hWj := Lib.hid hWj; replace hLi2 := Lib.hid hLi2
            go_wp2_with fail
            go_roundg (gq - 1)
            case measure => have := hLe.out; omega
            case rel => exact ⟨i + 1, _, _, _, by have := hLe.out; omega, by go_num, by have h := hW2.out; rw [hWj.out] at h; exact h, by omega, hO2.out, hI2.out⟩
      · have hltI : ¬ (i : Int) < nL := by have := hnL.out; omega
        have hWe : L = walkT T := by rw [← hW, walkF_more T gq i L (by omega)]
        replace hI := Lib.hid hI; replace hO := Lib.hid hO; replace hWe := Lib.hid hWe; replace hW := Lib.hid hW
        go_wp2_with fail
        go_ret2
        exact ⟨_, _, _, _, rfl, ⟨_, _, hWe.out ▸ hI.out⟩, hWe.out ▸ hO.out⟩
end Go.Proofs.Ytnggimkkjdipmaa
