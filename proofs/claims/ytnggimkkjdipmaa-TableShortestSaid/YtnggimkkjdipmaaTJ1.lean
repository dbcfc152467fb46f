import Derived.Test.YtnggimkkjdipmaaTB29
import Derived.Deep.Cut
import Derived.Deep.CutRange
namespace Go.Proofs.Ytnggimkkjdipmaa
open Go.RowKit
set_option linter.unusedVariables false
set_option linter.unusedSimpArgs false
set_option maxHeartbeats 16000000
set_option maxRecDepth 100000
theorem uPairsJ : Try.prog.underlying 39 = some (.slice 93) := by kernel_rfl
noncomputable def iArr2 : TypeInfo := (Try.prog.info? 93).getD default
theorem infoArr2 : Try.prog.info? 93 = some iArr2 := by kernel_rfl
noncomputable def zArr2 : Value := iArr2.zero.getD (.int .i64 0)
def prK (L : List (Int × Int)) : List ((Int × Int) × Value) := L.map fun x => (x, .bool true)
theorem prK_keys (L : List (Int × Int)) : (prK L).map (·.1) = L := by
  unfold prK; rw [List.map_map]; exact List.map_id _
theorem prK_len (L : List (Int × Int)) : (prK L).length = L.length := by simp [prK]
theorem prK_snoc (L : List (Int × Int)) (x : Int × Int) : prK (L ++ [x]) = prK L ++ [(x, .bool true)] := by simp [prK]
theorem prK_get : ∀ (L : List (Int × Int)) (x : Int × Int), (kget (prK L) x).getD (.bool false) = .bool (decide (x ∈ L))
  | [], x => by simp [prK, kget]
  | y :: L, x => by
    have ih := prK_get L x
    by_cases e : y = x
    · subst e
      simp [prK, kget]
    · simp only [prK, List.map_cons, kget, e, if_false] at ih ⊢
      rw [ih]
      congr 1
      have : x ≠ y := fun h => e h.symm
      simp [this]
theorem bool_zero : ∀ w, (zeroValue 4).run Try.prog w = .ok (.bool false) w := by
  intro w
  have hu : Try.prog.underlying 4 = some .bool := by kernel_rfl
  have hz : Try.t4.zero = some (.bool false) := by kernel_rfl
  simp [zeroValue, run_underlying hu, go_sem, hz]
/-- Product, in the midst. -/
structure PjI (A B : Tb) (w : World) (b1 b2 bm : Nat) (ra rb : Value) (i : Nat) (L : List (Int × Int)) (wr : World) (v : Value) (bo : Option Nat) : Prop where
  p1 : Pt wr b1 TTab [.int .i64 A.st, .int .i64 A.ev, .int .i64 A.sr, ra]
  p2 : Pt wr b2 TTab [.int .i64 B.st, .int .i64 B.ev, .int .i64 B.sr, rb]
  q : Row 2 wr v (L.drop i).length (pcells (L.drop i)) bo
  mp : MapK pairK wr bm (prK L)
  out : ∀ z, bo = some z → bm < z
  g0 : w.heap.size ≤ b1
  g1 : b1 < b2
  g2 : b2 < bm
  fr : Fr [] w wr
variable {A B : Tb} {w : World} {b1 b2 bm : Nat} {ra rb : Value} {i : Nat} {L : List (Int × Int)} {wr : World} {v : Value} {bo : Option Nat}
theorem PjI.frz (h : PjI A B w b1 b2 bm ra rb i L wr v bo) {W : World} (f : Fr [] wr W) : PjI A B w b1 b2 bm ra rb i L W v bo :=
  ⟨f.pt h.p1 (by simp), f.pt h.p2 (by simp), h.q.fr f (by simp), h.mp.fr f (by simp), h.out, h.g0, h.g1, h.g2, h.fr.trans f⟩
theorem PrOk.keys (hO : PrOk A B L) (h1 : A.st ≤ 30) (h2 : B.st ≤ 30) : ∀ x ∈ prK L, ∃ q, keyOf Try.prog 93 (pairK x.1) = some q := fun x hx => by
  have hm : x.1 ∈ L := by rw [← prK_keys L]; exact List.mem_map.mpr ⟨x, hx, rfl⟩
  have := hO.rng _ hm
  exact keyArr _ (by omega) (by omega)
theorem uMapP : Try.prog.underlying 95 = some (.map 93 4) := by kernel_rfl
theorem PjI.ask (h : PjI A B w b1 b2 bm ra rb i L wr v bo) (hO : PrOk A B L) (h1 : A.st ≤ 30) (h2 : B.st ≤ 30) (x : Int × Int) (hx : 0 ≤ x.1 ∧ x.1 < A.st ∧ 0 ≤ x.2 ∧ x.2 < B.st) {W : World} (f : Fr [] wr W) :
    (Instr.lookup 95 (.map (some bm)) (.agg #[.int .i64 x.1, .int .i64 x.2]) false).run Try.prog W = .ok (.bool (decide (x ∈ L))) W := by
  have := (h.mp.fr f (by simp)).lookW (P := Try.prog) (t := 95) lawArr uMapP pairK_inj (by rw [prK_keys]; exact hO.nd) (hO.keys h1 h2) (bool_zero W) x (keyArr _ (by omega) (by omega))
  rw [prK_get] at this
  exact this
theorem PjI.put (h : PjI A B w b1 b2 bm ra rb i L wr v bo) (hO : PrOk A B L) (h1 : A.st ≤ 30) (h2 : B.st ≤ 30) (x : Int × Int) (hx : 0 ≤ x.1 ∧ x.1 < A.st ∧ 0 ≤ x.2 ∧ x.2 < B.st) (hn : x ∉ L) {W : World} (f : Fr [] wr W) :
    ∃ w6, (Instr.mapUpdate 95 (.map (some bm)) (.agg #[.int .i64 x.1, .int .i64 x.2]) (.bool true)).run Try.prog W = .ok () w6 ∧ MapK pairK w6 bm (prK (L ++ [x])) ∧ Fr [bm] W w6 := by
  obtain ⟨w6, UP, M6, f6⟩ := (h.mp.fr f (by simp)).newW (P := Try.prog) (t := 95) lawArr uMapP pairK_inj (by rw [prK_keys]; exact hO.nd) (hO.keys h1 h2) x (keyArr _ (by omega) (by omega)) (kget_none _ _ (by rw [prK_keys]; exact hn)) (.bool true)
  exact ⟨w6, UP, by rw [prK_snoc]; exact M6, f6⟩
theorem PjI.add (h : PjI A B w b1 b2 bm ra rb i L wr v bo) (hl : L.length ≤ 1000) (hi : i ≤ L.length) (x : Int × Int) {W w6 : World} (f : Fr [] wr W) (M6 : MapK pairK w6 bm (prK (L ++ [x]))) (f6 : Fr [bm] W w6) :
    ∃ v' w9 bo', (Builtin.append_ #[39, 39] 39 #[v, .slice (some ⟨w6.heap.size, 0, none⟩) 1 1]).run Try.prog (w6.alloc (.cells #[.int .i64 x.1, .int .i64 x.2] 93)) = .ok v' w9 ∧
      PjI A B w b1 b2 bm ra rb i (L ++ [x]) w9 v' bo' := by
  have hgm : ∀ z, bo = some z → z ≠ bm := fun z hz => by have := h.out z hz; omega
  have l1 := h.p1.lt
  have l2 := h.p2.lt
  have l3 := h.mp.lt
  have g0 := h.g0
  have g1 := h.g1
  have g2 := h.g2
  have s1 := f.size
  have s6 := f6.size
  have q6 := (h.q.fr f (by simp)).fr f6 (fun z hz => by simp; exact hgm z hz)
  have fa : Fr [] w6 (w6.alloc (.cells #[.int .i64 x.1, .int .i64 x.2] 93)) := (Fr.refl [] w6).alloc _
  have qa := q6.fr fa (by simp)
  have P1 := Pt.newA w6 93 #[.int .i64 x.1, .int .i64 x.2]
  have hsrc : Src Try.prog 2 39 (.slice (some ⟨w6.heap.size, 0, none⟩) 1 1) 1 (pcells [x]) (w6.alloc (.cells #[.int .i64 x.1, .int .i64 x.2] 93)) :=
    Src.ofSlice _ uPairsJ ⟨w6.heap.size, 0, none⟩ 1 1 _ rfl (fun j u hu => by rw [Addr.add_lit, P1.cell, Nat.zero_add]; simpa [pcells] using hu) (by intro u hu; simp [pcells] at hu; rcases hu with rfl | rfl <;> rfl)
  obtain ⟨v', w9, bo', hrun, hr, hb, hf⟩ := qa.append (t := 39) (ty := 39) (e := 93) (i := iArr2) (z := zArr2) uPairsJ infoArr2 (by kernel_rfl) (by kernel_rfl) (by omega) (by kernel_rfl) (of_decide_eq_true (by kernel_rfl)) (by simp; omega) hsrc (by omega) (by omega)
  have hnb : ∀ b, b ≤ bm → b ∉ bo.toList := fun b hb1 hm => by have := h.out b (by simpa using hm); omega
  refine ⟨v', w9, bo', hrun, ?_, ?_, ?_, (M6.fr fa (by simp)).fr hf (hnb bm (Nat.le_refl _)), fun z hz => ?_, g0, g1, g2, ?_⟩
  · exact hf.pt (fa.pt (f6.pt (f.pt h.p1 (by simp)) (by simp; omega)) (by simp)) (hnb _ (by omega))
  · exact hf.pt (fa.pt (f6.pt (f.pt h.p2 (by simp)) (by simp; omega)) (by simp)) (hnb _ (by omega))
  · rw [List.drop_append_of_le_length hi, pcells_app, List.length_append]; exact hr
  · rcases hb with hb | hb
    · rw [hb] at hz; exact h.out z hz
    · rw [hb] at hz; cases hz
      have := fa.size; omega
  · refine (((h.fr.trans f).step f6 (fun b hb1 => .inr ?_)).trans (fa)).step hf (fun b hb1 => .inr ?_)
    · simp at hb1; omega
    · have := h.out b (by simpa using hb1); omega
/-- The head of the queue. -/
theorem PjI.head (h : PjI A B w b1 b2 bm ra rb i L wr v bo) (hi : i < L.length) : ∃ b off n cap, v = .slice (some ⟨b, off, none⟩) (n + 1) cap ∧ n + 1 ≤ cap ∧ b < wr.heap.size ∧ wr.cell? ⟨b, off, none⟩ = some (.int .i64 L[i].1) ∧ wr.cell? ⟨b, off + 1, none⟩ = some (.int .i64 L[i].2) ∧ n + 1 = L.length - i ∧
    ∀ u, u = (if cap = 1 then Value.slice (some ⟨b, off, none⟩) n 0 else .slice (some ⟨b, off + 2, none⟩) n (cap - 1)) → ∃ o', PjI A B w b1 b2 bm ra rb (i + 1) L wr u o' := by
  have hd : L.drop i = L[i] :: L.drop (i + 1) := List.drop_eq_getElem_cons hi
  have hq := h.q
  rw [hd] at hq
  obtain ⟨b, off, cap, rfl, hc, hb, hbo, c1, c2, hn⟩ := hq.popP
  refine ⟨b, off, _, cap, rfl, hc, hb, c1, c2, by simp; omega, fun u hu => ?_⟩
  obtain ⟨o', hr, ho⟩ := hn u hu
  refine ⟨o', h.p1, h.p2, hr, h.mp, fun z hz => ?_, h.g0, h.g1, h.g2, h.fr⟩
  rcases ho with e | e
  · rw [e] at hz; exact h.out z hz
  · rw [e] at hz; cases hz
end Go.Proofs.Ytnggimkkjdipmaa
