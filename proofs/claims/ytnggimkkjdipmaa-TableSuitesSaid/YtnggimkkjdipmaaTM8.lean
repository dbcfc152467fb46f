import Derived.Test.YtnggimkkjdipmaaTM7
import Derived.Test.YtnggimkkjdipmaaTC9
namespace Go.Proofs.Ytnggimkkjdipmaa
open Go.RowKit
set_option linter.unusedVariables false
set_option linter.unusedSimpArgs false
set_option maxHeartbeats 16000000
set_option maxRecDepth 100000
/-! ### A list of tables in memory -/
def tbcells (L : List (Tb × Value)) : List Value := L.flatMap fun p => [.int .i64 p.1.st, .int .i64 p.1.ev, .int .i64 p.1.sr, p.2]
theorem tbcells_len (L : List (Tb × Value)) : (tbcells L).length = L.length * 4 := by
  induction L with
  | nil => rfl
  | cons x l ih => simp only [tbcells, List.flatMap_cons, List.length_append, List.length_cons, List.length_nil] at ih ⊢; omega
theorem tbcells_app (l r : List (Tb × Value)) : tbcells (l ++ r) = tbcells l ++ tbcells r := by simp [tbcells]
theorem tbcells_get : ∀ (l : List (Tb × Value)) (i : Nat) (h : i < l.length), (tbcells l)[i * 4]? = some (.int .i64 l[i].1.st) ∧ (tbcells l)[i * 4 + 1]? = some (.int .i64 l[i].1.ev) ∧ (tbcells l)[i * 4 + 2]? = some (.int .i64 l[i].1.sr) ∧ (tbcells l)[i * 4 + 3]? = some l[i].2
  | x :: l, 0, _ => by simp [tbcells]
  | x :: l, i + 1, h => by
    have := tbcells_get l i (by simpa using h)
    have e : tbcells (x :: l) = [.int .i64 x.1.st, .int .i64 x.1.ev, .int .i64 x.1.sr, x.2] ++ tbcells l := rfl
    have key : ∀ d, (tbcells (x :: l))[(i + 1) * 4 + d]? = (tbcells l)[i * 4 + d]? := fun d => by
      rw [e, List.getElem?_append_right (by simp; omega)]
      congr 1
      simp; omega
    have k0 := key 0
    simp only [Nat.add_zero] at k0
    simp only [List.getElem_cons_succ]
    rw [k0, key 1, key 2, key 3]
    exact this
theorem uRTabs : Try.prog.underlying 111 = some (.slice RTab) := by kernel_rfl
noncomputable def iRTab : TypeInfo := (Try.prog.info? RTab).getD default
theorem infoRTab : Try.prog.info? RTab = some iRTab := by kernel_rfl
noncomputable def zRTab : Value := iRTab.zero.getD default
/-- Tables by value, one behind the other; their rows lie in blocks of the kind q, none of them the list's own. -/
structure TsI (q : Nat → Prop) (w : World) (v : Value) (L : List (Tb × Value)) (bo : Option Nat) : Prop where
  row : Row 4 w v L.length (tbcells L) bo
  each : ∀ p ∈ L, RInB (fun b => q b ∧ b ∉ bo.toList) w p.2 p.1.rows
  qo : ∀ z, bo = some z → q z
theorem TsI.nil (q : Nat → Prop) (w : World) : TsI q w (.slice none 0 0) [] none := ⟨Row.nil 4 w none, (fun p h => by simp at h), (fun z h => by cases h)⟩
theorem TsI.fr {q : Nat → Prop} {w W : World} {v : Value} {L : List (Tb × Value)} {bo : Option Nat} (h : TsI q w v L bo) {ex : List Nat} (f : Fr ex w W) (hx : ∀ x ∈ ex, ¬ q x) : TsI q W v L bo :=
  ⟨h.row.fr f (fun z hz hm => hx z hm (h.qo z hz)), fun p hp => (h.each p hp).fr f (fun b _ hq => ⟨fun hm => hx b hm hq.1, hq⟩), h.qo⟩
theorem RInB.one {q : Nat → Prop} {w : World} {v : Value} {l : List (List (Int × Int))} (h : RInB q w v l) : v.oneCell' = true := by
  obtain ⟨o, cap, rfl, _⟩ := h; rfl
theorem TsI.add {q : Nat → Prop} {w W : World} {v : Value} {L : List (Tb × Value)} {bo : Option Nat} (h : TsI q w v L bo) (hL : L.length < 100000) (f : Fr [] w W) (X : Tb) (rv : Value) (hr : RInB (fun b => w.heap.size ≤ b) W rv X.rows) (hq : ∀ z, w.heap.size ≤ z → q z) :
    ∃ v' w9 bo', (Builtin.append_ #[111, 111] 111 #[v, .slice (some ⟨W.heap.size, 0, none⟩) 1 1]).run Try.prog (W.alloc (.cells #[.int .i64 X.st, .int .i64 X.ev, .int .i64 X.sr, rv] RTab)) = .ok v' w9 ∧
      TsI q w9 v' (L ++ [(X, rv)]) bo' ∧ Fr bo.toList w w9 ∧ (bo' = bo ∨ ∃ z, bo' = some z ∧ w.heap.size ≤ z) := by
  have s1 := f.size
  have fa : Fr [] W (W.alloc (.cells #[.int .i64 X.st, .int .i64 X.ev, .int .i64 X.sr, rv] RTab)) := (Fr.refl [] W).alloc _
  have P1 := Pt.newA W RTab #[.int .i64 X.st, .int .i64 X.ev, .int .i64 X.sr, rv]
  have h1 := (h.row.fr f (by simp)).fr fa (by simp)
  have hsrc : Src Try.prog 4 111 (.slice (some ⟨W.heap.size, 0, none⟩) 1 1) 1 (tbcells [(X, rv)]) (W.alloc (.cells #[.int .i64 X.st, .int .i64 X.ev, .int .i64 X.sr, rv] RTab)) :=
    Src.ofSlice _ uRTabs ⟨W.heap.size, 0, none⟩ 1 1 _ rfl (fun j u hu => by rw [Addr.add_lit, P1.cell, Nat.zero_add]; simpa [tbcells] using hu) (by intro u hu; simp [tbcells] at hu; rcases hu with rfl | rfl | rfl | rfl <;> first | rfl | exact hr.one)
  obtain ⟨v', w9, bo', hrun, hr9, hb, hf⟩ := h1.append (t := 111) (ty := 111) (e := RTab) (i := iRTab) (z := zRTab) uRTabs infoRTab (by kernel_rfl) (by kernel_rfl) (by omega) (by kernel_rfl) (of_decide_eq_true (by kernel_rfl)) (by omega) hsrc (by omega) (by omega)
  have hlo : ∀ z, bo = some z → z < w.heap.size := fun z hz => by have h3 := h.row; rw [hz] at h3; exact h3.lt
  have key : ∀ b, b < W.heap.size → b ∉ bo.toList → b ∉ bo'.toList := fun b hb1 hb2 hm => by
    rcases hb with e | e
    · rw [e] at hm; exact hb2 hm
    · rw [e] at hm; simp at hm; omega
  refine ⟨v', w9, bo', hrun, ⟨?_, fun p hp => ?_, fun z hz => ?_⟩, ((f.trans fa).mono (by simp)).trans hf, hb.imp id (fun e => ⟨_, e, by have := fa.size; omega⟩)⟩
  · rw [tbcells_app, List.length_append]; exact hr9
  · rcases List.mem_append.mp hp with hp | hp
    · have e1 := (h.each p hp).fr (q' := fun b => b < w.heap.size ∧ q b ∧ b ∉ bo.toList) (Fr.refl [] w) (fun b hb hq => ⟨by simp, hb, hq⟩)
      have e2 := e1.fr (f.trans fa) (q' := fun b => b < w.heap.size ∧ q b ∧ b ∉ bo.toList) (fun b _ hq => ⟨by simp, hq⟩)
      exact e2.fr hf (fun b _ hq => ⟨hq.2.2, hq.2.1, key b (by have := hq.1; omega) hq.2.2⟩)
    · simp at hp; subst hp
      have e1 := hr.fr (q' := fun b => b < W.heap.size ∧ w.heap.size ≤ b) (Fr.refl [] W) (fun b hb hq => ⟨by simp, hb, hq⟩)
      have e2 := e1.fr fa (q' := fun b => b < W.heap.size ∧ w.heap.size ≤ b) (fun b _ hq => ⟨by simp, hq⟩)
      have nb : ∀ b, w.heap.size ≤ b → b ∉ bo.toList := fun b hb1 hm => by have := hlo b (by simpa using hm); omega
      exact e2.fr hf (fun b _ hb1 => ⟨nb b hb1.2, hq b hb1.2, key b hb1.1 (nb b hb1.2)⟩)
  · rcases hb with e | e
    · exact h.qo z (by rw [← e]; exact hz)
    · rw [e] at hz; cases hz
      exact hq _ (by have := fa.size; omega)
end Go.Proofs.Ytnggimkkjdipmaa
