import Derived.Test.YtehmfnpiidcbpaaGR4
import Derived.Test.YtehmfnpiidcbpaaGN6
namespace Go.Proofs.Ytehmfnpiidcbpaa
open Go.RowKit
set_option linter.unusedVariables false
set_option linter.unusedSimpArgs false
set_option maxHeartbeats 16000000
set_option maxRecDepth 100000
/-! ### A set as a constraint, in memory -/
theorem told_no (v : Value) (L : List (Int × Int)) (w : World) (h : PIn w v L) (hn : 100 < L.length) :
    Calls Try.prog 52 #[v] w fun e w' => e = .returned (.tuple #[.slice none 0 0, .int .i64 2]) ∧ w = w' := by
  obtain ⟨o, cap, rfl⟩ := PIn.slice h
  obtain ⟨N, hN⟩ : ∃ N, L.length = N := ⟨_, rfl⟩
  rw [hN] at hn ⊢
  have hI : (100 : Int) < (N : Int) := by omega
  replace h := Lib.hid h; replace hN := Lib.hid hN
  go_enter Try.func52, Try.ntmps52
  go_wp2_with fail
  go_ret2
  exact ⟨rfl, rfl⟩
theorem told_ok (v : Value) (L : List (Int × Int)) (w : World) (h : PIn w v L) (hn : L.length ≤ 100) :
    Calls Try.prog 52 #[v] w fun e w' => e = .returned (.tuple #[v, .int .i64 0]) ∧ w = w' := by
  obtain ⟨o, cap, rfl⟩ := PIn.slice h
  obtain ⟨N, hN⟩ : ∃ N, L.length = N := ⟨_, rfl⟩
  rw [hN] at hn ⊢
  have hI : ¬ (100 : Int) < (N : Int) := by omega
  replace h := Lib.hid h; replace hN := Lib.hid hN
  go_enter Try.func52, Try.ntmps52
  go_wp2_with fail
  go_ret2
  exact ⟨rfl, rfl⟩
theorem toldR {m : Int → Prop} {a b : List (Int × Int)} {w W : World} {v : Value} {L : List (Int × Int)} (hok : okAB a b = true) (h1 : Nf L) (h2 : ∀ x, inS L x ↔ m x) (h3 : PIn W v L) (hf : Fr [] w W) :
    Calls Try.prog 52 #[v] W (OpR m a b w) := by
  by_cases hl : L.length ≤ 100
  · refine (told_ok v L W h3 hl).mono ?_
    rintro e w' ⟨rfl, rfl⟩
    exact ⟨v, L, 0, rfl, h3, .inr ⟨hok, L, h1, h2, .inr ⟨rfl, rfl, hl⟩⟩, hf⟩
  · refine (told_no v L W h3 (by omega)).mono ?_
    rintro e w' ⟨rfl, rfl⟩
    exact ⟨_, [], 2, rfl, PIn.nil _, .inr ⟨hok, L, h1, h2, .inl ⟨rfl, rfl, by omega⟩⟩, hf⟩
/-- Cells of a row of leaves. -/
def lcells (k0 : Value) (l : List (Int × Int)) : List Value := [.int .i64 3, .int .i64 0, .int .i64 0, k0] ++ l.flatMap fun x => [.int .i64 0, .int .i64 x.1, .int .i64 x.2, .slice none 0 0]
theorem lcells_app (k0 : Value) (l r : List (Int × Int)) : lcells k0 (l ++ r) = lcells k0 l ++ r.flatMap fun x => [.int .i64 0, .int .i64 x.1, .int .i64 x.2, .slice none 0 0] := by simp [lcells]
theorem lflat_len (l : List (Int × Int)) : (l.flatMap fun x => [Value.int .i64 0, .int .i64 x.1, .int .i64 x.2, .slice none 0 0]).length = l.length * 4 := by
  induction l with
  | nil => rfl
  | cons x l ih => simp only [List.flatMap_cons, List.length_append, List.length_cons, List.length_nil, ih]; omega
theorem lcells_len (k0 : Value) (l : List (Int × Int)) : (lcells k0 l).length = (l.length + 1) * 4 := by
  unfold lcells; rw [List.length_append, lflat_len]; simp; omega
theorem lflat_get : ∀ (l : List (Int × Int)) (i : Nat) (h : i < l.length), let L := l.flatMap fun x => [Value.int .i64 0, .int .i64 x.1, .int .i64 x.2, .slice none 0 0]
    L[i * 4]? = some (.int .i64 0) ∧ L[i * 4 + 1]? = some (.int .i64 l[i].1) ∧ L[i * 4 + 2]? = some (.int .i64 l[i].2) ∧ L[i * 4 + 3]? = some (.slice none 0 0)
  | x :: l, 0, _ => by simp
  | x :: l, i + 1, h => by
    have := lflat_get l i (by simpa using h)
    dsimp only at this ⊢
    rw [List.flatMap_cons]
    obtain ⟨h1, h2, h3, h4⟩ := this
    have e : ∀ j, ([Value.int .i64 0, .int .i64 x.1, .int .i64 x.2, .slice none 0 0] ++ l.flatMap fun x => [Value.int .i64 0, .int .i64 x.1, .int .i64 x.2, .slice none 0 0])[(i + 1) * 4 + j]? = (l.flatMap fun x => [Value.int .i64 0, .int .i64 x.1, .int .i64 x.2, .slice none 0 0])[i * 4 + j]? := fun j => by
      rw [List.getElem?_append_right (by simp; omega)]
      congr 1
      simp only [List.length_cons, List.length_nil]
      omega
    have e0 := e 0
    simp only [Nat.add_zero] at e0
    rw [e0, e 1, e 2, e 3]
    exact ⟨h1, h2, h3, h4⟩
theorem leaf_ni (q : Nat → Prop) (w : World) (op lo hi : Int) : NIn q w (.mk op lo hi []) (.agg #[.int .i64 op, .int .i64 lo, .int .i64 hi, .slice none 0 0]) :=
  NIn.mk op lo hi [] none 0 (fun _ => .slice none 0 0) (fun i hi => by cases hi) (fun i hi => by cases hi)
/-- The row of kids of a set's constraint. -/
theorem asN_ni {w : World} {k0 v : Value} {l : List (Int × Int)} {bo : Option Nat} (h : Row 4 w v (l.length + 1) (lcells k0 l) bo) (h0 : NI w noN (.agg #[.int .i64 3, .int .i64 0, .int .i64 0, k0])) :
    NI w (asN l) (.agg #[.int .i64 1, .int .i64 0, .int .i64 0, v]) := by
  rcases h with ⟨_, h2, _⟩ | ⟨b, off, cap, hb, rfl, h3, h4, _, _, h7⟩
  · omega
  · have hlen : (noN :: l.map spN).length = l.length + 1 := by simp
    have hg : ∀ i, i < l.length + 1 → (lcells k0 l)[i * 4]? = some (.int .i64 ((noN :: l.map spN)[i]?.getD noN).op) ∧ (lcells k0 l)[i * 4 + 1]? = some (.int .i64 ((noN :: l.map spN)[i]?.getD noN).lo) ∧ (lcells k0 l)[i * 4 + 2]? = some (.int .i64 ((noN :: l.map spN)[i]?.getD noN).hi) ∧ (lcells k0 l)[i * 4 + 3]? = some (if i = 0 then k0 else .slice none 0 0) := fun i hi => by
      rcases Nat.eq_zero_or_pos i with rfl | hp
      · exact ⟨rfl, rfl, rfl, rfl⟩
      · obtain ⟨j, rfl⟩ : ∃ j, i = j + 1 := ⟨i - 1, by omega⟩
        have hj : j < l.length := by omega
        obtain ⟨g1, g2, g3, g4⟩ := lflat_get l j hj
        have e : ∀ k, (lcells k0 l)[(j + 1) * 4 + k]? = (l.flatMap fun x => [Value.int .i64 0, .int .i64 x.1, .int .i64 x.2, .slice none 0 0])[j * 4 + k]? := fun k => by
          unfold lcells
          rw [List.getElem?_append_right (by simp; omega)]
          congr 1
          simp only [List.length_cons, List.length_nil]
          omega
        have e0 := e 0
        simp only [Nat.add_zero] at e0
        rw [e0, e 1, e 2, e 3, g1, g2, g3, g4, if_neg (by omega)]
        have hn : (noN :: l.map spN)[j + 1]?.getD noN = spN l[j] := by simp [hj]
        rw [hn]
        exact ⟨rfl, rfl, rfl, rfl⟩
    have hk : ∀ i (h : i < (noN :: l.map spN).length), (noN :: l.map spN)[i]?.getD noN = (noN :: l.map spN)[i] := fun i h => by rw [List.getElem?_eq_getElem h]; rfl
    have := NIn.mk (q := fun _ => True) (w := w) 1 0 0 (noN :: l.map spN) (some ⟨b, off, none⟩) cap (fun i => if i = 0 then k0 else .slice none 0 0) (fun i hi => by
      obtain ⟨g1, g2, g3, g4⟩ := hg i (by rw [hlen] at hi; exact hi)
      rw [hk i hi] at g1 g2 g3
      rw [hlen] at hi
      refine ⟨b, off, rfl, h4, trivial, ?_, ?_, ?_, ?_⟩
      · rw [h7 _ (by omega), g1]
      · rw [Nat.add_assoc, h7 _ (by omega), g2]
      · rw [Nat.add_assoc, h7 _ (by omega), g3]
      · rw [Nat.add_assoc, h7 _ (by omega), g4]) (fun i hi => by
      rcases Nat.eq_zero_or_pos i with rfl | hp
      · exact h0
      · obtain ⟨j, rfl⟩ : ∃ j, i = j + 1 := ⟨i - 1, by omega⟩
        have hj : j < l.length := by simpa using hi
        rw [if_neg (by omega)]
        simp only [List.getElem_cons_succ, List.getElem_map]
        exact leaf_ni _ w 0 _ _)
    rw [hlen] at this
    exact this
end Go.Proofs.Ytehmfnpiidcbpaa
