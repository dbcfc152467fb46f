import Derived.Test.YtnggimkkjdipmaaTJ1
import Derived.Deep.CutBlock
namespace Go.Proofs.Ytnggimkkjdipmaa
open Go.RowKit
set_option linter.unusedVariables false
set_option linter.unusedSimpArgs false
set_option maxHeartbeats 16000000
set_option maxRecDepth 100000
/-! ### Lists of pairs with a word, of the reference's -/
abbrev TPr : TypeId := 98
theorem uPrs : Try.prog.underlying 99 = some (.slice TPr) := by kernel_rfl
noncomputable def iPr : TypeInfo := (Try.prog.info? TPr).getD default
theorem infoPr : Try.prog.info? TPr = some iPr := by kernel_rfl
noncomputable def zPr : Value := iPr.zero.getD (.int .i64 0)
def tcells (l : List ((Int × Int) × Value)) : List Value := l.flatMap fun x => [.int .i64 x.1.1, .int .i64 x.1.2, x.2]
theorem tcells_app (l r : List ((Int × Int) × Value)) : tcells (l ++ r) = tcells l ++ tcells r := by simp [tcells]
theorem tcells_len (l : List ((Int × Int) × Value)) : (tcells l).length = l.length * 3 := by
  induction l with
  | nil => rfl
  | cons x l ih => simp only [tcells, List.flatMap_cons, List.length_append, List.length_cons, List.length_nil] at ih ⊢; omega
theorem tcells_get : ∀ (l : List ((Int × Int) × Value)) (i : Nat) (h : i < l.length), (tcells l)[i * 3]? = some (.int .i64 l[i].1.1) ∧ (tcells l)[i * 3 + 1]? = some (.int .i64 l[i].1.2) ∧ (tcells l)[i * 3 + 2]? = some l[i].2
  | x :: l, 0, _ => by simp [tcells]
  | x :: l, i + 1, h => by
    have := tcells_get l i (by simpa using h)
    have e : tcells (x :: l) = [.int .i64 x.1.1, .int .i64 x.1.2, x.2] ++ tcells l := rfl
    rw [e]
    refine ⟨?_, ?_, ?_⟩
    · rw [List.getElem?_append_right (by simp; omega)]
      simp only [List.length_cons, List.length_nil, List.getElem_cons_succ]
      rw [show (i + 1) * 3 - (0 + 1 + 1 + 1) = i * 3 by omega]
      exact this.1
    · rw [List.getElem?_append_right (by simp; omega)]
      simp only [List.length_cons, List.length_nil, List.getElem_cons_succ]
      rw [show (i + 1) * 3 + 1 - (0 + 1 + 1 + 1) = i * 3 + 1 by omega]
      exact this.2.1
    · rw [List.getElem?_append_right (by simp; omega)]
      simp only [List.length_cons, List.length_nil, List.getElem_cons_succ]
      rw [show (i + 1) * 3 + 2 - (0 + 1 + 1 + 1) = i * 3 + 2 by omega]
      exact this.2.2
theorem Row.atT {w : World} {v : Value} {l : List ((Int × Int) × Value)} {bo : Option Nat} (h : Row 3 w v l.length (tcells l) bo) (i : Nat) (hi : i < l.length) :
    ∃ b off cap, bo = some b ∧ v = .slice (some ⟨b, off, none⟩) l.length cap ∧ b < w.heap.size ∧ w.cell? ⟨b, off + i * 3, none⟩ = some (.int .i64 l[i].1.1) ∧ w.cell? ⟨b, off + i * 3 + 1, none⟩ = some (.int .i64 l[i].1.2) ∧ w.cell? ⟨b, off + i * 3 + 2, none⟩ = some l[i].2 := by
  rcases h with ⟨_, h2, _, _⟩ | ⟨b, off, cap, hb, e, h3, h4, _, _, h7⟩
  · omega
  · obtain ⟨g1, g2, g3⟩ := tcells_get l i hi
    exact ⟨b, off, cap, hb, e, h4, by rw [h7 _ (by omega)]; exact g1, by rw [Nat.add_assoc, h7 _ (by omega)]; exact g2, by rw [Nat.add_assoc, h7 _ (by omega)]; exact g3⟩
theorem Row.addT {w : World} {v : Value} {l : List ((Int × Int) × Value)} {bo : Option Nat} (h : Row 3 w v l.length (tcells l) bo) (hn : l.length < 1000000) (x : (Int × Int) × Value) (h1 : x.2.oneCell' = true) :
    ∃ v' w' bo', (Builtin.append_ #[99, 99] 99 #[v, .slice (some ⟨w.heap.size, 0, none⟩) 1 1]).run Try.prog (w.alloc (.cells #[.int .i64 x.1.1, .int .i64 x.1.2, x.2] TPr)) = .ok v' w' ∧
      Row 3 w' v' (l ++ [x]).length (tcells (l ++ [x])) bo' ∧ (bo' = bo ∨ ∃ z, bo' = some z ∧ w.heap.size ≤ z) ∧ Fr bo.toList w w' := by
  have f1 : Fr [] w (w.alloc (.cells #[.int .i64 x.1.1, .int .i64 x.1.2, x.2] TPr)) := (Fr.refl [] w).alloc _
  have P1 := Pt.newA w TPr #[.int .i64 x.1.1, .int .i64 x.1.2, x.2]
  have hr1 := h.fr f1 (by simp)
  have hsrc : Src Try.prog 3 99 (.slice (some ⟨w.heap.size, 0, none⟩) 1 1) 1 (tcells [x]) (w.alloc (.cells #[.int .i64 x.1.1, .int .i64 x.1.2, x.2] TPr)) :=
    Src.ofSlice _ uPrs ⟨w.heap.size, 0, none⟩ 1 1 _ rfl (fun j u hu => by rw [Addr.add_lit, P1.cell, Nat.zero_add]; simpa [tcells] using hu) (by intro u hu; simp [tcells] at hu; rcases hu with rfl | rfl | rfl; rfl; rfl; exact h1)
  obtain ⟨v', w', bo', hrun, hr, hb, hf⟩ := hr1.append (t := 99) (ty := 99) (e := TPr) (i := iPr) (z := zPr) uPrs infoPr (by kernel_rfl) (by kernel_rfl) (by omega) (by kernel_rfl) (of_decide_eq_true (by kernel_rfl)) hn hsrc (by omega) (by omega)
  refine ⟨v', w', bo', hrun, ?_, ?_, (f1.mono (by simp)).trans hf⟩
  · rw [tcells_app, List.length_append]; exact hr
  · rcases hb with hb | hb
    · exact .inl hb
    · exact .inr ⟨_, hb, f1.size⟩
def nilW (L : List (Int × Int)) : List ((Int × Int) × Value) := L.map fun x => (x, .slice none 0 0)
theorem nilW_len (L : List (Int × Int)) : (nilW L).length = L.length := by simp [nilW]
theorem nilW_snoc (L : List (Int × Int)) (x : Int × Int) : nilW (L ++ [x]) = nilW L ++ [(x, .slice none 0 0)] := by simp [nilW]
theorem nilW_get (L : List (Int × Int)) (i : Nat) (h : i < L.length) : (nilW L)[i]'(by simp [nilW]; exact h) = (L[i], .slice none 0 0) := by simp [nilW]
/-- The reference's Product, in the midst. -/
structure PrI (A B : Tb) (w : World) (b1 b2 : Nat) (ra rb : Value) (L : List (Int × Int)) (wr : World) (v : Value) (bo : Option Nat) : Prop where
  p1 : Pt wr b1 RTab [.int .i64 A.st, .int .i64 A.ev, .int .i64 A.sr, ra]
  p2 : Pt wr b2 RTab [.int .i64 B.st, .int .i64 B.ev, .int .i64 B.sr, rb]
  q : Row 3 wr v (nilW L).length (tcells (nilW L)) bo
  out : ∀ z, bo = some z → b2 < z
  g0 : w.heap.size ≤ b1
  g1 : b1 < b2
  fr : Fr [] w wr
variable {A B : Tb} {w : World} {b1 b2 : Nat} {ra rb : Value} {i : Nat} {L : List (Int × Int)} {wr : World} {v : Value} {bo : Option Nat}
theorem PrI.frz (h : PrI A B w b1 b2 ra rb L wr v bo) {W : World} (f : Fr [] wr W) : PrI A B w b1 b2 ra rb L W v bo :=
  ⟨f.pt h.p1 (by simp), f.pt h.p2 (by simp), h.q.fr f (by simp), h.out, h.g0, h.g1, h.fr.trans f⟩
theorem PrI.at (h : PrI A B w b1 b2 ra rb L wr v bo) (hi : i < L.length) : ∃ b off cap, v = .slice (some ⟨b, off, none⟩) L.length cap ∧ b < wr.heap.size ∧ wr.cell? ⟨b, off + i * 3, none⟩ = some (.int .i64 L[i].1) ∧ wr.cell? ⟨b, off + i * 3 + 1, none⟩ = some (.int .i64 L[i].2) := by
  obtain ⟨b, off, cap, _, e, hb, c1, c2, _⟩ := h.q.atT i (by rw [nilW_len]; exact hi)
  rw [nilW_get L i hi] at c1 c2
  rw [nilW_len] at e
  exact ⟨b, off, cap, e, hb, c1, c2⟩
theorem PrI.add (h : PrI A B w b1 b2 ra rb L wr v bo) (hl : L.length ≤ 1000) (x : Int × Int) {W : World} (f : Fr [] wr W) :
    ∃ v' w9 bo', (Builtin.append_ #[99, 99] 99 #[v, .slice (some ⟨W.heap.size, 0, none⟩) 1 1]).run Try.prog (W.alloc (.cells #[.int .i64 x.1, .int .i64 x.2, .slice none 0 0] TPr)) = .ok v' w9 ∧
      PrI A B w b1 b2 ra rb (L ++ [x]) w9 v' bo' := by
  have l1 := h.p1.lt
  have l2 := h.p2.lt
  have g0 := h.g0
  have g1 := h.g1
  have s1 := f.size
  obtain ⟨v', w9, bo', hrun, hr, hb, hf⟩ := (h.q.fr f (by simp)).addT (by rw [nilW_len]; omega) (x, .slice none 0 0) rfl
  have hnb : ∀ b, b ≤ b2 → b ∉ bo.toList := fun b hb1 hm => by have := h.out b (by simpa using hm); omega
  refine ⟨v', w9, bo', hrun, ?_, ?_, ?_, fun z hz => ?_, g0, g1, ?_⟩
  · exact hf.pt (f.pt h.p1 (by simp)) (hnb _ (by omega))
  · exact hf.pt (f.pt h.p2 (by simp)) (hnb _ (by omega))
  · rw [nilW_snoc]; exact hr
  · rcases hb with hb | ⟨z', hb, hz'⟩
    · rw [hb] at hz; exact h.out z hz
    · rw [hb] at hz; cases hz; omega
  · refine (h.fr.trans f).step hf (fun b hb1 => .inr ?_)
    have := h.out b (by simpa using hb1); omega
end Go.Proofs.Ytnggimkkjdipmaa
