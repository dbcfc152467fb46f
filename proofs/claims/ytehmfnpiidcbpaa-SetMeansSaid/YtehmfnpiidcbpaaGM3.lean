import Derived.Test.YtehmfnpiidcbpaaGN2
namespace Go.Proofs.Ytehmfnpiidcbpaa
open Go.RowKit
set_option linter.unusedVariables false
set_option linter.unusedSimpArgs false
set_option maxHeartbeats 16000000
set_option maxRecDepth 100000
/-! ### A row of kids, as it is made -/
theorem uSNs : Try.prog.underlying 44 = some (.slice 46) := by kernel_rfl
noncomputable def iSN : TypeInfo := (Try.prog.info? 46).getD default
theorem infoSN : Try.prog.info? 46 = some iSN := by kernel_rfl
noncomputable def zSN : Value := iSN.zero.getD default
theorem bytesSN : iSN.bytes = 48 := by kernel_rfl
theorem Row.oneSN {w : World} {v : Value} {cs : List Value} {k : Nat} {bo : Option Nat} (h : Row 4 w v k cs bo) (hn : (k + 1) * 48 ≤ 140737488355328) (a b c : Int) (s : Value) (hs : s.oneCell' = true) :
    ∃ v' w' bo', (Builtin.append_ #[44, 44] 44 #[v, .slice (some ⟨w.heap.size, 0, none⟩) 1 1]).run Try.prog (w.alloc (.cells #[.int .i64 a, .int .i64 b, .int .i64 c, s] 46)) = .ok v' w' ∧
      Row 4 w' v' (k + 1) (cs ++ [.int .i64 a, .int .i64 b, .int .i64 c, s]) bo' ∧ (bo' = bo ∨ ∃ z, bo' = some z ∧ w.heap.size ≤ z) ∧ Fr bo.toList w w' := by
  have f1 : Fr [] w (w.alloc (.cells #[.int .i64 a, .int .i64 b, .int .i64 c, s] 46)) := (Fr.refl [] w).alloc _
  have P1 := Pt.newA w 46 #[.int .i64 a, .int .i64 b, .int .i64 c, s]
  have h1 := h.fr f1 (by simp)
  have hsrc : Src Try.prog 4 44 (.slice (some ⟨w.heap.size, 0, none⟩) 1 1) 1 [.int .i64 a, .int .i64 b, .int .i64 c, s] (w.alloc (.cells #[.int .i64 a, .int .i64 b, .int .i64 c, s] 46)) := Src.ofSlice _ uSNs ⟨w.heap.size, 0, none⟩ 1 1 _ rfl (fun j u hu => by rw [Addr.add_lit, P1.cell, Nat.zero_add]; exact hu) (by intro u hu; simp at hu; rcases hu with rfl | rfl | rfl | rfl <;> first | rfl | exact hs)
  obtain ⟨v', w', bo', hrun, hr, hb, hf⟩ := h1.appendW (t := 44) (ty := 44) (e := 46) (i := iSN) (z := zSN) uSNs infoSN (by kernel_rfl) (by kernel_rfl) (by omega) (by kernel_rfl) hsrc (by omega) (by rw [bytesSN]; exact hn) (by omega)
  refine ⟨v', w', bo', hrun, hr, ?_, (f1.mono (by simp)).trans hf⟩
  rcases hb with hb | hb
  · exact .inl hb
  · exact .inr ⟨_, hb, f1.size⟩
def ndV (n : Nd) (s : Value) : Value := .agg #[.int .i64 n.op, .int .i64 n.lo, .int .i64 n.hi, s]
def kcells (ks : List (Nd × Value)) : List Value := ks.flatMap fun x => [.int .i64 x.1.op, .int .i64 x.1.lo, .int .i64 x.1.hi, x.2]
theorem kcells_app (l r : List (Nd × Value)) : kcells (l ++ r) = kcells l ++ kcells r := by simp [kcells]
theorem kcells_len (l : List (Nd × Value)) : (kcells l).length = l.length * 4 := by
  induction l with
  | nil => rfl
  | cons x l ih => simp only [kcells, List.flatMap_cons, List.length_append, List.length_cons, List.length_nil] at ih ⊢; omega
theorem kcells_get : ∀ (l : List (Nd × Value)) (i : Nat) (h : i < l.length), (kcells l)[i * 4]? = some (.int .i64 l[i].1.op) ∧ (kcells l)[i * 4 + 1]? = some (.int .i64 l[i].1.lo) ∧ (kcells l)[i * 4 + 2]? = some (.int .i64 l[i].1.hi) ∧ (kcells l)[i * 4 + 3]? = some l[i].2
  | x :: l, 0, _ => by simp [kcells]
  | x :: l, i + 1, h => by
    have := kcells_get l i (by simpa using h)
    have e : ∀ j, (kcells (x :: l))[(i + 1) * 4 + j]? = (kcells l)[i * 4 + j]? := fun j => by
      show ([Value.int .i64 x.1.op, .int .i64 x.1.lo, .int .i64 x.1.hi, x.2] ++ kcells l)[(i + 1) * 4 + j]? = _
      rw [List.getElem?_append_right (by simp; omega)]
      congr 1
      simp only [List.length_cons, List.length_nil]
      omega
    have e0 := e 0
    simp only [Nat.add_zero] at e0
    rw [e0, e 1, e 2, e 3]
    exact this
/-- A row of kids in blocks from t on. -/
structure KidI (t : Nat) (ks : List (Nd × Value)) (wr : World) (v : Value) (bo : Option Nat) : Prop where
  row : Row 4 wr v ks.length (kcells ks) bo
  new : ∀ z, bo = some z → t ≤ z
  el : ∀ x ∈ ks, NIn (fun z => t ≤ z ∧ bo ≠ some z) wr x.1 (ndV x.1 x.2)
theorem KidI.nil (t : Nat) (w : World) (o : Option Addr) : KidI t [] w (.slice o 0 0) none := ⟨Row.nil _ _ _, by simp, by simp⟩
theorem KidI.fr {t : Nat} {ks : List (Nd × Value)} {wr w' : World} {v : Value} {bo : Option Nat} (h : KidI t ks wr v bo) {ex : List Nat} (hf : Fr ex wr w') (hx : ∀ b ∈ ex, b < t) : KidI t ks w' v bo :=
  ⟨h.row.fr hf (fun b hb hm => by have := hx b hm; have := h.new b hb; omega), h.new, fun x hx2 => (h.el x hx2).fr hf (fun b _ hq => ⟨fun hm => by have := hx b hm; omega, hq⟩)⟩
theorem KidI.put {t : Nat} {ks : List (Nd × Value)} {wr W : World} {v : Value} {bo : Option Nat} (h : KidI t ks wr v bo) (ht : t ≤ wr.heap.size) (hn : ks.length ≤ 1000000) (hf : Fr [] wr W) {n : Nd} {s : Value} (hs : NIn (fun z => wr.heap.size ≤ z) W n (ndV n s)) :
    ∃ v' w' bo', (Builtin.append_ #[44, 44] 44 #[v, .slice (some ⟨W.heap.size, 0, none⟩) 1 1]).run Try.prog (W.alloc (.cells #[.int .i64 n.op, .int .i64 n.lo, .int .i64 n.hi, s] 46)) = .ok v' w' ∧
      KidI t (ks ++ [(n, s)]) w' v' bo' ∧ Fr bo.toList W w' := by
  have hs1 : s.oneCell' = true := by obtain ⟨o, L, cap, rfl⟩ := hs.sl; rfl
  obtain ⟨v', w', bo', h1, h2, h3, h4⟩ := (h.row.fr hf (by simp)).oneSN (by omega) n.op n.lo n.hi s hs1
  have hold : ∀ z, bo = some z → z < wr.heap.size := fun z hz => by have := h.row; rw [hz] at this; exact this.lt
  have hsz := hf.size
  have nb : ∀ b, b < W.heap.size → bo ≠ some b → bo' ≠ some b := fun b h3' h4' h5 => by
    rcases h3 with e | ⟨z', e, h6⟩
    · exact h4' (by rw [← e]; exact h5)
    · rw [h5] at e; cases e; omega
  refine ⟨v', w', bo', h1, ⟨?_, fun z hz => ?_, fun x hx => ?_⟩, h4⟩
  · rw [kcells_app, List.length_append]; exact h2
  · rcases h3 with e | ⟨z', e, h5⟩
    · exact h.new z (by rw [← e]; exact hz)
    · rw [hz] at e; cases e; omega
  · rcases List.mem_append.1 hx with hx | hx
    · exact ((h.el x hx).fr (q' := fun z => t ≤ z ∧ bo ≠ some z) hf (fun b _ hq => ⟨by simp, hq⟩)).fr h4 (fun b hb1 hq => ⟨fun hm => hq.2 (by simpa using hm), hq.1, nb b hb1 hq.2⟩)
    · obtain rfl := List.mem_singleton.1 hx
      refine hs.fr h4 (fun b hb1 hq => ?_)
      have hne : bo ≠ some b := fun e2 => by have := hold b e2; omega
      exact ⟨fun hm => hne (by simpa using hm), by omega, nb b hb1 hne⟩
/-- What has been made is a constraint. -/
theorem KidI.ni {t : Nat} {ks : List (Nd × Value)} {wr : World} {v : Value} {bo : Option Nat} (h : KidI t ks wr v bo) (op lo hi : Int) : NIn (fun z => t ≤ z) wr (.mk op lo hi (ks.map Prod.fst)) (.agg #[.int .i64 op, .int .i64 lo, .int .i64 hi, v]) := by
  have hel : ∀ i (hi : i < (ks.map Prod.fst).length), NIn (fun z => t ≤ z) wr (ks.map Prod.fst)[i] (.agg #[.int .i64 (ks.map Prod.fst)[i].op, .int .i64 (ks.map Prod.fst)[i].lo, .int .i64 (ks.map Prod.fst)[i].hi, (ks[i]'(by simpa using hi)).2]) := fun i hi => by
    have := (h.el (ks[i]'(by simpa using hi)) (List.getElem_mem _)).fr (q' := fun z => t ≤ z) (Fr.refl [] wr) (fun b _ hq => ⟨by simp, hq.1⟩)
    simp only [List.getElem_map]
    exact this
  have key : ∀ o cap, v = .slice o ks.length cap → (∀ i (hi : i < ks.length), ∃ b off, o = some ⟨b, off, none⟩ ∧ b < wr.heap.size ∧ t ≤ b ∧ wr.cell? ⟨b, off + i * 4, none⟩ = some (.int .i64 ks[i].1.op) ∧ wr.cell? ⟨b, off + i * 4 + 1, none⟩ = some (.int .i64 ks[i].1.lo) ∧ wr.cell? ⟨b, off + i * 4 + 2, none⟩ = some (.int .i64 ks[i].1.hi) ∧ wr.cell? ⟨b, off + i * 4 + 3, none⟩ = some ks[i].2) → NIn (fun z => t ≤ z) wr (.mk op lo hi (ks.map Prod.fst)) (.agg #[.int .i64 op, .int .i64 lo, .int .i64 hi, v]) := fun o cap hv hc => by
    have := NIn.mk (q := fun z => t ≤ z) (w := wr) op lo hi (ks.map Prod.fst) o cap (fun i => if h : i < ks.length then ks[i].2 else .slice none 0 0) (fun i hi => by
      have hi' : i < ks.length := by simpa using hi
      obtain ⟨b, off, h1, h2, h3, h4, h5, h6, h7⟩ := hc i hi'
      simp only [List.getElem_map]
      exact ⟨b, off, h1, h2, h3, h4, h5, h6, by rw [dif_pos hi']; exact h7⟩) (fun i hi => by
      have hi' : i < ks.length := by simpa using hi
      rw [dif_pos hi']
      exact hel i hi)
    rw [List.length_map] at this
    rw [hv]; exact this
  rcases h.row with ⟨_, h2, _, o, rfl⟩ | ⟨b, off, cap, hb, rfl, h3, h4, _, _, h7⟩
  · exact key o 0 (by rw [h2]) (fun i hi => by omega)
  · refine key _ cap rfl (fun i hi => ?_)
    obtain ⟨g1, g2, g3, g4⟩ := kcells_get ks i hi
    refine ⟨b, off, rfl, h4, h.new b hb, ?_, ?_, ?_, ?_⟩
    · rw [h7 _ (by omega), g1]
    · rw [Nat.add_assoc, h7 _ (by omega), g2]
    · rw [Nat.add_assoc, h7 _ (by omega), g3]
    · rw [Nat.add_assoc, h7 _ (by omega), g4]
def NodR (m : Nd) (w : World) (e : Ending) (w' : World) : Prop := ∃ s, e = .returned (ndV m s) ∧ NIn (fun z => w.heap.size ≤ z) w' m (ndV m s) ∧ Fr [] w w'
end Go.Proofs.Ytehmfnpiidcbpaa
