import Derived.Test.YtkfkkglodjehpaaTB15
import Derived.Test.YtkfkkglodjehpaaTP6
import Derived.Deep.Cut
import Derived.Deep.CutRange
namespace Go.Proofs.Ytkfkkglodjehpaa
open Go.RowKit
set_option linter.unusedVariables false
set_option linter.unusedSimpArgs false
set_option maxHeartbeats 16000000
set_option maxRecDepth 100000
def intK (n : Int) : Value := .int .i64 n
theorem uMapI : Try.prog.underlying 60 = some (.map 3 36) := by kernel_rfl
theorem isKey_intK (k : Int) : MapKept.IsKey (.int .i64) (intK k) := by simp [MapKept.IsKey, intK]
theorem intK_inj (a b : Int) (h : intK a = intK b) : a = b := by unfold intK at h; injection h
/-- The first entry of a map. -/
theorem first_entry (w : World) (b : Nat) (k : Int) (v : Value) (h : w.heap[b]? = some (.map #[] 0)) :
    (Instr.mapUpdate 60 (.map (some b)) (.int .i64 k) v).run Try.prog w = .ok () (w.putObj b (.map #[{ key := .int .i64 k, val := v, born := 0 }] 1)) := by
  have hc := MapKept.run_checkKey (P := Try.prog) (w := w) (k := intK k) uInt (isKey_intK k) false 9999
  have hf := MapKept.run_findKey (P := Try.prog) (w := w) (k := intK k) (l := []) (a := none) uInt rfl
  simp only [intK] at hc hf
  simp [Instr.mapUpdate, run_underlying uMapI, MapKept.run_getObj_map h, hc, hf, MapKept.run_setObj_map _ h, Result.andThen, World.putObj]
theorem first1 (X : World) (b : Nat) (k : Int) (v : Value) (h : b = X.heap.size) :
    (Instr.mapUpdate 60 (.map (some b)) (.int .i64 k) v).run Try.prog (X.alloc (.map #[] 0)).drew = .ok () (((X.alloc (.map #[] 0)).drew).putObj b (.map #[{ key := .int .i64 k, val := v, born := 0 }] 1)) :=
  first_entry _ _ _ _ (by subst h; exact World.alloc_heap_new X _)
theorem first2 (X : World) (o : Obj) (b : Nat) (k : Int) (v : Value) (h : b = X.heap.size) :
    (Instr.mapUpdate 60 (.map (some b)) (.int .i64 k) v).run Try.prog ((X.alloc (.map #[] 0)).alloc o).drew = .ok () ((((X.alloc (.map #[] 0)).alloc o).drew).putObj b (.map #[{ key := .int .i64 k, val := v, born := 0 }] 1)) :=
  first_entry _ _ _ _ (by subst h; exact (Below.heap_alloc _ o _ (by simp)).trans (World.alloc_heap_new X _))
theorem first3 (X : World) (o o2 : Obj) (b : Nat) (k : Int) (v : Value) (h : b = X.heap.size) :
    (Instr.mapUpdate 60 (.map (some b)) (.int .i64 k) v).run Try.prog (((X.alloc (.map #[] 0)).alloc o).alloc o2).drew = .ok () (((((X.alloc (.map #[] 0)).alloc o).alloc o2).drew).putObj b (.map #[{ key := .int .i64 k, val := v, born := 0 }] 1)) :=
  first_entry _ _ _ _ (by subst h; exact (Below.heap_alloc _ o2 _ (by simp; omega)).trans ((Below.heap_alloc _ o _ (by simp)).trans (World.alloc_heap_new X _)))
theorem cell_put (w : World) (b : Nat) (es : Array MapEntry) (n : Nat) (p : Addr) (h : p.block ≠ b) : (w.putObj b (.map es n)).cell? p = w.cell? p := World.cell?_of_block (w := w) (World.putObj_heap_other h)
theorem size_put (w : World) (b : Nat) (o : Obj) : (w.putObj b o).heap.size = w.heap.size := by simp [World.putObj]
theorem hp_alloc (w : World) (o : Obj) : (w.alloc o).heap = w.heap.push o := rfl
theorem hp_drew (w : World) : w.drew.heap = w.heap := rfl
theorem hp_put (w : World) (b : Nat) (o : Obj) : (w.putObj b o).heap = w.heap.setIfInBounds b o := rfl
theorem hn1 (n : Nat) : (n + 1 = n) = False := by simp
theorem hn2 (n : Nat) : (n + 1 + 1 = n) = False := by simp; omega
theorem hn3 (n : Nat) : (n = n + 1) = False := by simp
theorem hn4 (n : Nat) : (n = n + 1 + 1) = False := by simp; omega
theorem hn5 (n : Nat) : (n < n + 1 + 1 + 1) = True := by simp; omega
theorem hn6 (n : Nat) : (n < n + 1 + 1) = True := by simp; omega
theorem hn7 (n : Nat) : (n + 1 < n + 1 + 1 + 1) = True := by simp
/-- walk, in the midst. -/
structure WkI (T : Tb) (w : World) (bt bm : Nat) (r : Value) (L : List (Int × List Int)) (wr : World) (ov : Value) (bo : Option Nat) (M : List (Int × Value)) : Prop where
  pt : Pt wr bt TTab [.int .i64 T.st, .int .i64 T.ev, .int .i64 T.sr, r]
  ord : Row 1 wr ov (L.map (·.1)).length (ints (L.map (·.1))) bo
  mp : MapK intK wr bm M
  keys : M.map (·.1) = L.map (·.1)
  val : ∀ k (h1 : k < M.length) (h2 : k < L.length), NInB (fun b => b ≠ bm ∧ b ∉ bo.toList ∧ bt < b) wr M[k].2 L[k].2
  out : ∀ z, bo = some z → bt < z ∧ z ≠ bm
  gt : bt < bm
  gw : w.heap.size ≤ bt
  fr : Fr [] w wr
theorem WkI.start {T : Tb} {w w0 W : World} {bt bm bo be : Nat} {r : Value} (p0 : Pt w0 bt TTab [.int .i64 T.st, .int .i64 T.ev, .int .i64 T.sr, r]) (f0 : Fr [] w w0) (hgw : w.heap.size ≤ bt)
    (hbo : W.heap[bo]? = some (.cells #[.int .i64 T.sr] 3 (0, 0))) (hbm : W.heap[bm]? = some (.map #[{ key := .int .i64 T.sr, val := .slice (some ⟨be, 0, none⟩) 0 0, born := 0 }] 1)) (hbe : be < W.heap.size) (hf : Fr [] w0 W)
    (h1 : w0.heap.size ≤ bo) (h2 : w0.heap.size ≤ bm) (h3 : w0.heap.size ≤ be) (h4 : bo ≠ bm) (h5 : be ≠ bm) (h6 : be ≠ bo) :
    WkI T w bt bm r [(T.sr, [])] W (.slice (some ⟨bo, 0, none⟩) 1 1) (some bo) [(T.sr, .slice (some ⟨be, 0, none⟩) 0 0)] := by
  have l0 := p0.lt
  have PO : Pt W bo 3 [.int .i64 T.sr] := hbo
  refine ⟨hf.pt p0 (by simp), ?_, ⟨_, _, hbm, rfl⟩, rfl, fun k h1 h2 => ?_, fun z hz => by cases hz; omega, by omega, hgw, f0.trans hf⟩
  · refine .inr ⟨bo, 0, 1, rfl, rfl, by simp, PO.lt, by simp [ints], fun j hj => ?_, fun j hj => ?_⟩
    · obtain rfl : j = 0 := by omega
      exact ⟨by rw [PO.cell]; rfl, PO.free 0⟩
    · obtain rfl : j = 0 := by simp at hj; omega
      rw [PO.cell]; rfl
  · obtain rfl : k = 0 := by simp at h1; omega
    exact ⟨_, 0, rfl, fun i hi => by simp at hi⟩

theorem NInB.frq {q q' : Nat → Prop} {w w' : World} {v : Value} {l : List Int} (h : NInB q w v l) {ex : List Nat} (hf : Fr ex w w') (hx : ∀ b, b < w.heap.size → q b → b ∉ ex ∧ q' b) : NInB q' w' v l := by
  obtain ⟨o, cap, h1, h2⟩ := h
  refine ⟨o, cap, h1, fun i hi => ?_⟩
  obtain ⟨b, off, e, hb, hq, hc⟩ := h2 i hi
  exact ⟨b, off, e, Nat.lt_of_lt_of_le hb hf.size, (hx b hb hq).2, by rw [hf.cell (p := ⟨b, off + i, none⟩) hb (hx b hb hq).1]; exact hc⟩
theorem NInB.nin {q : Nat → Prop} {w : World} {v : Value} {l : List Int} (h : NInB q w v l) : NIn w v l := by
  obtain ⟨o, cap, h1, h2⟩ := h
  refine ⟨o, cap, h1, fun i hi => ?_⟩
  obtain ⟨b, off, e, hb, hq, hc⟩ := h2 i hi
  exact ⟨b, off, e, hb, hc⟩
theorem Row.ninb {q : Nat → Prop} {w : World} {v : Value} {l : List Int} {bo : Option Nat} (h : Row 1 w v l.length (ints l) bo) (hq : ∀ b, bo = some b → q b) : NInB q w v l := by
  rcases h with ⟨_, h2, _, o, rfl⟩ | ⟨b, off, cap, hb, rfl, h3, h4, _, _, h7⟩
  · exact ⟨o, 0, by rw [h2], fun i h => by omega⟩
  · exact ⟨_, cap, rfl, fun i h => ⟨b, off, rfl, h4, hq b hb, by rw [h7 i (by omega)]; simp [ints, h]⟩⟩
/-- append, of a fresh block that is already there. -/
theorem Row.addPt {w : World} {v : Value} {l : List Int} {bo : Option Nat} (h : Row 1 w v l.length (ints l) bo) (hn : l.length < 1000000) {bs : Nat} {x : Int} (hp : Pt w bs 3 [.int .i64 x]) :
    ∃ v' w' bo', (Builtin.append_ #[36, 36] 36 #[v, .slice (some ⟨bs, 0, none⟩) 1 1]).run Try.prog w = .ok v' w' ∧
      Row 1 w' v' (l ++ [x]).length (ints (l ++ [x])) bo' ∧ (bo' = bo ∨ ∃ z, bo' = some z ∧ w.heap.size ≤ z) ∧ Fr bo.toList w w' := by
  have hsrc : Src Try.prog 1 36 (.slice (some ⟨bs, 0, none⟩) 1 1) 1 (ints [x]) w := Src.ofSlice _ uInts ⟨bs, 0, none⟩ 1 1 _ rfl (fun j u hu => by rw [Addr.add_lit, hp.cell, Nat.zero_add]; exact hu) (by intro u hu; simp [ints] at hu; rcases hu with rfl; rfl)
  obtain ⟨v', w', bo', hrun, hr, hb, hf⟩ := h.append (t := 36) (ty := 36) (e := 3) (i := iInt) (z := zInt) uInts infoInt (by kernel_rfl) (by kernel_rfl) (by omega) (by kernel_rfl) (of_decide_eq_true (by kernel_rfl)) hn hsrc (by omega) (by omega)
  refine ⟨v', w', bo', hrun, ?_, ?_, hf⟩
  · rw [ints_app, List.length_append]; exact hr
  · rcases hb with hb | hb
    · exact .inl hb
    · exact .inr ⟨_, hb, Nat.le_refl _⟩
theorem wRow_snoc (word : List Int) (r : Int × Int) : ∀ (rs : List (Int × Int)) (e : Nat) (L : List (Int × List Int)), wRow word e (rs ++ [r]) L = wStep word (wRow word e rs L) (e + rs.length) r
  | [], e, L => rfl
  | x :: rs, e, L => by
    rw [List.cons_append, wRow_cons, wRow_snoc word r rs, wRow_cons, List.length_cons, Nat.add_assoc, Nat.add_comm 1]
theorem wRow_take (word : List Int) (L : List (Int × List Int)) (row : List (Int × Int)) (j : Nat) (h : j < row.length) : wRow word 0 (row.take (j + 1)) L = wStep word (wRow word 0 (row.take j) L) j row[j] := by
  rw [List.take_succ_eq_append_getElem h, wRow_snoc, List.length_take, Nat.min_eq_left (by omega), Nat.zero_add]
theorem uMapI_zero : ∀ w, (zeroValue 36).run Try.prog w = .ok (.slice none 0 0) w := by
  intro w
  have hz : Try.t36.zero = some (.slice none 0 0) := by kernel_rfl
  simp [zeroValue, run_underlying uInts, go_sem, hz]
theorem WkI.mlen {T : Tb} {w : World} {bt bm : Nat} {r : Value} {L : List (Int × List Int)} {wr : World} {ov : Value} {bo : Option Nat} {M : List (Int × Value)} (h : WkI T w bt bm r L wr ov bo M) : M.length = L.length := by
  have := congrArg List.length h.keys
  simpa using this
theorem WkI.step {T : Tb} {w : World} {bt bm : Nat} {r : Value} {L : List (Int × List Int)} {wr : World} {ov : Value} {bo : Option Nat} {M : List (Int × Value)} (h : WkI T w bt bm r L wr ov bo M)
    {x : Int} {word : List Int} {w8 w9 w10 : World} {v' ov' : Value} {b8 bo' : Option Nat} (f8 : Fr [] wr w8) (r8 : Row 1 w8 v' word.length (ints word) b8) (hb8 : ∀ z, b8 = some z → wr.heap.size ≤ z)
    (m9 : MapK intK w9 bm (M ++ [(x, v')])) (f9 : Fr [bm] w8 w9) (r10 : Row 1 w10 ov' (L.map (·.1) ++ [x]).length (ints (L.map (·.1) ++ [x])) bo') (hb : bo' = bo ∨ ∃ z, bo' = some z ∧ w9.heap.size ≤ z) (f10 : Fr bo.toList w9 w10) :
    WkI T w bt bm r (L ++ [(x, word)]) w10 ov' bo' (M ++ [(x, v')]) := by
  have l1 := h.pt.lt
  have l2 := h.mp.lt
  have l3 : ∀ z, bo = some z → z < wr.heap.size := fun z hz => by have h3 := h.ord; rw [hz] at h3; exact h3.lt
  have s8 := f8.size
  have s9 := f9.size
  have s10 := f10.size
  have hgt := h.gt
  have hgw := h.gw
  refine ⟨?_, ?_, m9.fr f10 (fun hm => by have := h.out bm (by simpa using hm); omega), ?_, fun k h1 h2 => ?_, fun z hz => ?_, hgt, hgw, ?_⟩
  · exact f10.pt (f9.pt (f8.pt h.pt (by simp)) (by simp; omega)) (fun hm => by have := h.out bt (by simpa using hm); omega)
  · have : (L ++ [(x, word)]).map (·.1) = L.map (·.1) ++ [x] := by simp
    rw [this]; exact r10
  · rw [List.map_append, List.map_append, h.keys]; rfl
  · have hml := h.mlen
    have key : ∀ b, b < w9.heap.size → (b ∉ bo.toList) → b ∉ bo'.toList := fun b hb1 hb2 hm => by
      rcases hb with e | ⟨z, e, hz⟩
      · rw [e] at hm; exact hb2 hm
      · rw [e] at hm; simp at hm; omega
    by_cases hk : k < M.length
    · rw [List.getElem_append_left hk, List.getElem_append_left (by omega : k < L.length)]
      have hv := h.val k hk (by omega)
      have hv8 := hv.frq f8 (q' := fun b => b ≠ bm ∧ b ∉ bo.toList ∧ bt < b) (fun b _ hq => ⟨by simp, hq⟩)
      have hv9 := hv8.frq f9 (q' := fun b => b ≠ bm ∧ b ∉ bo.toList ∧ bt < b) (fun b _ hq => ⟨by simp; exact hq.1, hq⟩)
      exact hv9.frq f10 (fun b hb1 hq => ⟨hq.2.1, hq.1, key b hb1 hq.2.1, hq.2.2⟩)
    · obtain rfl : k = M.length := by simp at h1; omega
      have e1 : (M ++ [(x, v')])[M.length] = (x, v') := by simp
      have e2 : (L ++ [(x, word)])[M.length]'(by simp; omega) = (x, word) := by
        rw [List.getElem_append_right (by omega)]; simp [hml]
      rw [e1, e2]
      have hv8 : NInB (fun b => b ≠ bm ∧ b ∉ bo.toList ∧ bt < b) w8 v' word := r8.ninb (fun b hb2 => by
        have := hb8 b hb2
        refine ⟨by omega, fun hm => ?_, by omega⟩
        have := l3 b (by simpa using hm); omega)
      have hv9 := hv8.frq f9 (q' := fun b => b ≠ bm ∧ b ∉ bo.toList ∧ bt < b) (fun b _ hq => ⟨by simp; exact hq.1, hq⟩)
      exact hv9.frq f10 (fun b hb1 hq => ⟨hq.2.1, hq.1, key b hb1 hq.2.1, hq.2.2⟩)
  · rcases hb with e | ⟨z', e, hz'⟩
    · rw [e] at hz; exact h.out z hz
    · rw [e] at hz; cases hz; omega
  · refine (((h.fr.trans f8).step f9 (fun b hb1 => .inr ?_)).step f10 (fun b hb1 => .inr ?_))
    · simp at hb1; omega
    · have := h.out b (by simpa using hb1); omega
theorem WkI.frz {T : Tb} {w : World} {bt bm : Nat} {r : Value} {L : List (Int × List Int)} {wr w' : World} {ov : Value} {bo : Option Nat} {M : List (Int × Value)} (h : WkI T w bt bm r L wr ov bo M) (f : Fr [] wr w') : WkI T w bt bm r L w' ov bo M :=
  ⟨f.pt h.pt (by simp), h.ord.fr f (by simp), h.mp.fr f (by simp), h.keys, fun k h1 h2 => (h.val k h1 h2).frq f (fun b _ hq => ⟨by simp, hq⟩), h.out, h.gt, h.gw, h.fr.trans f⟩
theorem kget_app {κ : Type} [DecidableEq κ] : ∀ (M r : List (κ × Value)) (k : κ) (v : Value), kget M k = some v → kget (M ++ r) k = some v
  | x :: M, r, k, v, h => by
    by_cases e : x.1 = k
    · simp [kget, e] at h ⊢; exact h
    · simp [kget, e] at h ⊢; exact kget_app M r k v h
theorem WkI.get {T : Tb} {w : World} {bt bm : Nat} {r : Value} {L : List (Int × List Int)} {wr : World} {ov : Value} {bo : Option Nat} {M : List (Int × Value)} (h : WkI T w bt bm r L wr ov bo M) (hO : WOk T L) (i : Nat) (s : Int) (word : List Int) (hi : L[i]? = some (s, word)) :
    ∃ vw, kget M s = some vw ∧ NInB (fun b => b ≠ bm ∧ b ∉ bo.toList ∧ bt < b) wr vw word := by
  obtain ⟨h1, h2⟩ := List.getElem?_eq_some_iff.1 hi
  have h3 : i < M.length := by have := h.mlen; omega
  have hv := h.val i h3 h1
  rw [h2] at hv
  refine ⟨M[i].2, ?_, hv⟩
  have hk : M[i].1 = s := by
    have := congrArg (·[i]?) h.keys
    simp [h3, hi] at this
    exact this
  have hn : (M.map (·.1)).Nodup := by rw [h.keys]; exact hO.nd
  have := kget_at M i h3 hn
  rw [hk] at this
  exact this
/-- The word, put into the map. -/
theorem WkI.put {T : Tb} {w : World} {bt bm : Nat} {r : Value} {L : List (Int × List Int)} {wr : World} {ov : Value} {bo : Option Nat} {M : List (Int × Value)} (h : WkI T w bt bm r L wr ov bo M)
    {x : Int} (hx : x ∉ L.map (·.1)) (word : List Int) (hn : word.length < 1000000) (W : World) (v2 : Value) (b2 : Option Nat) (bs : Nat) (e : Int) (f : Fr [] wr W) (hr : Row 1 W v2 word.length (ints word) b2) (hb : ∀ z, b2 = some z → wr.heap.size ≤ z) (hp : Pt W bs 3 [.int .i64 e]) :
    ∃ v5 w5 w6 b5, (Builtin.append_ #[36, 36] 36 #[v2, .slice (some ⟨bs, 0, none⟩) 1 1]).run Try.prog W = .ok v5 w5 ∧
      (Instr.mapUpdate 60 (.map (some bm)) (.int .i64 x) v5).run Try.prog w5 = .ok () w6 ∧ Fr [] wr w5 ∧ Row 1 w5 v5 (word ++ [e]).length (ints (word ++ [e])) b5 ∧ (∀ z, b5 = some z → wr.heap.size ≤ z) ∧
      MapK intK w6 bm (M ++ [(x, v5)]) ∧ Fr [bm] w5 w6 := by
  obtain ⟨v5, w5, b5, happ, hr5, hb5, f5⟩ := hr.addPt hn hp
  have F5 : Fr [] wr w5 := f.step f5 (fun z hz => .inr (hb z (by simpa using hz)))
  obtain ⟨w6, UP, M6, f6⟩ := (h.mp.fr F5 (by simp)).update (P := Try.prog) (t := 60) uMapI uInt isKey_intK intK_inj x v5
  rw [kset_new M x v5 (by rw [h.keys]; exact hx)] at M6
  refine ⟨v5, w5, w6, b5, happ, UP, F5, hr5, fun z hz => ?_, M6, f6⟩
  rcases hb5 with e' | ⟨z', e', hz'⟩
  · rw [e'] at hz; exact hb z hz
  · rw [e'] at hz; cases hz; have := f.size; omega
end Go.Proofs.Ytkfkkglodjehpaa
