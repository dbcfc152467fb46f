import Derived.Test.YtjgmlnkbplgloaaQ8
namespace Go.Proofs.Ytjgmlnkbplgloaa
open Go.RowKit
set_option linter.unusedVariables false
set_option linter.unusedSimpArgs false
set_option maxHeartbeats 8000000
set_option maxRecDepth 20000
/-! ### Plain: only one side at a time sets points -/
def minE (n : Int) : Ev := ⟨1, 1, n, 0, 0, ByteArray.empty⟩
def mins (m : Int) : Nat → List Ev
  | 0 => []
  | c + 1 => minE m :: mins (m + 1) c
theorem mins_snoc (c : Nat) : ∀ m : Int, mins m c ++ [minE (m + c)] = mins m (c + 1) := by
  induction c with
  | zero => intro m; simp [mins]
  | succ c ih =>
    intro m
    show minE m :: (mins (m + 1) c ++ [minE (m + ((c + 1 : Nat) : Int))]) = minE m :: mins (m + 1) (c + 1)
    rw [show m + ((c + 1 : Nat) : Int) = m + 1 + c by omega, ih]
theorem mins_len (c : Nat) : ∀ m : Int, (mins m c).length = c := by
  induction c with
  | zero => intro m; rfl
  | succ c ih => intro m; show (mins (m + 1) c).length + 1 = c + 1; rw [ih]
def Calm (s : SS) : Prop := s.wt = false ∧ s.kt = false ∧ s.major = 0
/-- Side s sets points; c of them are on the way. -/
structure AI (s : Bool) (c : Nat) (M : Int) (p : PQ) : Prop where
  x : Calm (p.sd s)
  y : Calm (p.sd (!s))
  m : (p.sd s).m = (p.sd (!s)).m + c
  lo : 0 ≤ (p.sd (!s)).m
  hi : (p.sd s).m ≤ M
  qs : p.q s = []
  qo : p.q (!s) = mins (p.sd (!s)).m c
theorem AI.turn {s : Bool} {M : Int} {p : PQ} (h : AI s 0 M p) : AI (!s) 0 M p := by
  obtain ⟨h1, h2, h3, h4, h5, h6, h7⟩ := h
  refine ⟨h2, by simpa using h1, by simp; omega, by simp; omega, by omega, h7, by rw [show (!(!s)) = s by simp]; exact h6⟩
theorem AI.le {s : Bool} {c : Nat} {M M' : Int} {p : PQ} (h : AI s c M p) (hM : M ≤ M') : AI s c M' p := ⟨h.x, h.y, h.m, h.lo, Int.le_trans h.hi hM, h.qs, h.qo⟩
theorem AI.pt {s : Bool} {c : Nat} {M : Int} {p : PQ} (h : AI s c M p) (hM : M < 999999) : AI s (c + 1) (M + 1) (p.meet s ptE) := by
  obtain ⟨⟨h1, h1', h1''⟩, h2, h3, h4, h5, h6, h7⟩ := h
  have hns : (!s) ≠ s := by cases s <;> simp
  have hsn : s ≠ (!s) := by cases s <;> simp
  have hg : goodE ptE = true := by simp [goodE, ptE]
  have ho : onS (p.sd s) ptE = (pt1 (p.sd s) 1 true, [minE (p.sd s).m], 0) := by
    unfold onS
    rw [if_pos hg, if_pos (show ptE.way = 0 from rfl)]
    unfold userS
    rw [if_neg (by rw [h1]; simp), if_neg (by simp [ptE]), if_neg (by rw [h1']; simp), if_pos (show ptE.kind = 1 ∨ ptE.kind = 3 from .inl rfl), if_neg (by rw [h1'']; simp), if_neg (by omega)]
    rfl
  have e1 : (p.meet s ptE).sd s = pt1 (p.sd s) 1 true := by show upd p.sd s _ s = _; rw [upd_same, ho]
  have e2 : (p.meet s ptE).sd (!s) = p.sd (!s) := by show upd p.sd s _ (!s) = _; rw [upd_other _ _ _ _ hns]
  have e3 : (p.meet s ptE).q s = p.q s := by show upd p.q (!s) _ s = _; rw [upd_other _ _ _ _ hsn]
  have e4 : (p.meet s ptE).q (!s) = p.q (!s) ++ [minE (p.sd s).m] := by show upd p.q (!s) _ (!s) = _; rw [upd_same, ho]; rfl
  refine ⟨by rw [e1]; exact ⟨h1, h1', h1''⟩, by rw [e2]; exact h2, ?_, by rw [e2]; exact h4, ?_, by rw [e3]; exact h6, ?_⟩
  · rw [e1, e2]; show (p.sd s).m + 1 = _; omega
  · rw [e1]; show (p.sd s).m + 1 ≤ _; omega
  · rw [e4, e2, h7, h3]; exact mins_snoc c _
theorem AI.pop {s : Bool} {c : Nat} {M : Int} {p : PQ} (h : AI s c M p) (hM : M ≤ 999999) : AI s (c - 1) M (p.pop (!s)) := by
  obtain ⟨h1, ⟨h2, h2', h2''⟩, h3, h4, h5, h6, h7⟩ := h
  have hns : (!s) ≠ s := by cases s <;> simp
  have hsn : s ≠ (!s) := by cases s <;> simp
  cases c with
  | zero =>
    have : p.pop (!s) = p := by unfold PQ.pop; rw [h7]; rfl
    rw [this]
    exact ⟨h1, ⟨h2, h2', h2''⟩, h3, h4, h5, h6, h7⟩
  | succ c =>
    have hp : p.pop (!s) = PQ.meet ⟨p.sd, upd p.q (!s) (mins ((p.sd (!s)).m + 1) c)⟩ (!s) (minE (p.sd (!s)).m) := by
      unfold PQ.pop; rw [h7]; rfl
    have hg : goodE (minE (p.sd (!s)).m) = true := by
      have : 0 ≤ (p.sd (!s)).m ∧ (p.sd (!s)).m ≤ 999999 := by omega
      simp [goodE, minE, inR, this]
    have ho : onS (p.sd (!s)) (minE (p.sd (!s)).m) = (pt1 (p.sd (!s)) 1 false, [⟨0, 1, (p.sd (!s)).m, 0, 0, ByteArray.empty⟩], 0) := by
      unfold onS
      rw [if_pos hg, if_neg (by simp [minE])]
      unfold belowS
      rw [if_neg (by rw [h2]; simp), if_pos (show (minE (p.sd (!s)).m).kind = 1 ∨ (minE (p.sd (!s)).m).kind = 3 from .inl rfl), if_neg (by simp only [minE]; rw [h2'']; simp; omega)]
      rfl
    rw [hp]
    have e1 : (PQ.meet ⟨p.sd, upd p.q (!s) (mins ((p.sd (!s)).m + 1) c)⟩ (!s) (minE (p.sd (!s)).m)).sd (!s) = pt1 (p.sd (!s)) 1 false := by show upd p.sd (!s) _ (!s) = _; rw [upd_same, ho]
    have e2 : (PQ.meet ⟨p.sd, upd p.q (!s) (mins ((p.sd (!s)).m + 1) c)⟩ (!s) (minE (p.sd (!s)).m)).sd s = p.sd s := by show upd p.sd (!s) _ s = _; rw [upd_other _ _ _ _ hsn]
    have e3 : (PQ.meet ⟨p.sd, upd p.q (!s) (mins ((p.sd (!s)).m + 1) c)⟩ (!s) (minE (p.sd (!s)).m)).q s = p.q s := by
      show upd (upd p.q (!s) _) (!(!s)) (upd p.q (!s) _ (!(!s)) ++ _) s = _
      rw [show (!(!s)) = s by simp, upd_same, upd_other _ _ _ _ hsn, ho]
      exact List.append_nil _
    have e4 : (PQ.meet ⟨p.sd, upd p.q (!s) (mins ((p.sd (!s)).m + 1) c)⟩ (!s) (minE (p.sd (!s)).m)).q (!s) = mins ((p.sd (!s)).m + 1) c := by
      show upd (upd p.q (!s) _) (!(!s)) _ (!s) = _
      rw [show (!(!s)) = s by simp, upd_other _ _ _ _ hns, upd_same]
    refine ⟨by rw [e2]; exact h1, by rw [e1]; exact ⟨h2, h2', h2''⟩, ?_, ?_, by rw [e2]; exact h5, by rw [e3]; exact h6, ?_⟩
    · rw [e1, e2, h3]; show _ = (p.sd (!s)).m + 1 + ((c + 1 - 1 : Nat) : Int); simp; omega
    · rw [e1]; show 0 ≤ (p.sd (!s)).m + 1; omega
    · rw [e4, e1]; rfl
/-- The deeds of a stretch: points of side s, and what is on the way. -/
def ptD (s : Bool) (x : Int) : Int := 24 * (x % 10) + 12 * (s.toNat : Int) + x % 3
def popD (s : Bool) : Int := 12 * (1 - (s.toNat : Int)) + 7
def stretch (s : Bool) (l : List Int) : List Int := (l.take 6).map (ptD s) ++ List.replicate 6 (popD s)
def deedsFrom : Bool → List (List Int) → List Int
  | _, [] => []
  | s, l :: t => stretch s l ++ deedsFrom (!s) t
theorem deed_pt (s : Bool) (x : Int) (p : PQ) : p.deed (ptD s x) = p.meet s ptE := by
  have h0 : ptD s x % 12 = x % 3 := by unfold ptD; cases s <;> simp <;> omega
  have h1 : sideOf (ptD s x) = s := by
    unfold sideOf ptD
    cases s
    · refine decide_eq_false ?_
      show ¬ (24 * (x % 10) + 12 * (0 : Int) + x % 3) / 12 % 2 = 1
      obtain ⟨j, hj⟩ : ∃ j, x % 10 = j := ⟨_, rfl⟩
      obtain ⟨r, hr⟩ : ∃ r, x % 3 = r := ⟨_, rfl⟩
      have : 0 ≤ r ∧ r < 3 := by omega
      rw [hj, hr]
      clear hj hr
      omega
    · refine decide_eq_true ?_
      show (24 * (x % 10) + 12 * (1 : Int) + x % 3) / 12 % 2 = 1
      obtain ⟨j, hj⟩ : ∃ j, x % 10 = j := ⟨_, rfl⟩
      obtain ⟨r, hr⟩ : ∃ r, x % 3 = r := ⟨_, rfl⟩
      have : 0 ≤ r ∧ r < 3 := by omega
      rw [hj, hr]
      clear hj hr
      omega
  unfold PQ.deed
  rw [h0, h1]
  exact if_pos (by omega)
theorem deed_pop (s : Bool) (p : PQ) : p.deed (popD s) = p.pop (!s) := by
  cases s <;> rfl
/-- Behind every beginning of the deeds. -/
def Good (p : PQ) : Prop := ∃ s c M, AI s c M p
def AllG (p : PQ) (l : List Int) : Prop := ∀ k, Good (runQ p (l.take k))
theorem AllG.app {p : PQ} {a b : List Int} (h1 : AllG p a) (h2 : AllG (runQ p a) b) : AllG p (a ++ b) := by
  intro k
  rw [List.take_append]
  by_cases hk : k ≤ a.length
  · rw [show k - a.length = 0 by omega, List.take_zero, List.append_nil]; exact h1 k
  · rw [List.take_of_length_le (by omega)]
    have := h2 (k - a.length)
    unfold runQ at this ⊢
    rwa [List.foldl_append]
theorem runQ_app (p : PQ) (a b : List Int) : runQ p (a ++ b) = runQ (runQ p a) b := by unfold runQ; rw [List.foldl_append]
theorem AI.pts {s : Bool} (l : List Int) : ∀ {c : Nat} {M : Int} {p : PQ}, AI s c M p → M + l.length ≤ 999999 → AllG p (l.map (ptD s)) ∧ AI s (c + l.length) (M + l.length) (runQ p (l.map (ptD s))) := by
  induction l with
  | nil => intro c M p h _; exact ⟨fun k => ⟨s, c, M, by simpa [runQ] using h⟩, by simpa [runQ] using h⟩
  | cons x t ih =>
    intro c M p h hM
    simp only [List.length_cons] at hM
    have h1 := h.pt (by omega)
    rw [← deed_pt s x p] at h1
    obtain ⟨g1, g2⟩ := ih h1 (by omega)
    refine ⟨fun k => ?_, ?_⟩
    · cases k with
      | zero => exact ⟨s, c, M, h⟩
      | succ k => exact g1 k
    · have : AI s (c + 1 + t.length) (M + 1 + t.length) (runQ (p.deed (ptD s x)) (t.map (ptD s))) := g2
      simp only [List.length_cons]
      rw [show c + (t.length + 1) = c + 1 + t.length by omega, show M + ((t.length + 1 : Nat) : Int) = M + 1 + t.length by omega]
      exact this
theorem AI.pops {s : Bool} (n : Nat) : ∀ {c : Nat} {M : Int} {p : PQ}, AI s c M p → M ≤ 999999 → AllG p (List.replicate n (popD s)) ∧ AI s (c - n) M (runQ p (List.replicate n (popD s))) := by
  induction n with
  | zero => intro c M p h _; exact ⟨fun k => ⟨s, c, M, by simpa [runQ] using h⟩, by simpa [runQ] using h⟩
  | succ n ih =>
    intro c M p h hM
    have h1 := h.pop hM
    rw [← deed_pop s p] at h1
    obtain ⟨g1, g2⟩ := ih h1 hM
    refine ⟨fun k => ?_, ?_⟩
    · cases k with
      | zero => exact ⟨s, c, M, h⟩
      | succ k => exact g1 k
    · rw [show c - (n + 1) = c - 1 - n by omega]; exact g2
theorem AI.all (ls : List (List Int)) : ∀ {s : Bool} {M : Int} {p : PQ}, AI s 0 M p → M + 6 * ls.length ≤ 999999 → AllG p (deedsFrom s ls) := by
  induction ls with
  | nil => intro s M p h _ k; exact ⟨s, 0, M, by simpa [deedsFrom, runQ] using h⟩
  | cons l t ih =>
    intro s M p h hM
    simp only [List.length_cons] at hM
    have hl : (l.take 6).length ≤ 6 := List.length_take_le _ _
    obtain ⟨g1, g2⟩ := AI.pts (l.take 6) h (by omega)
    obtain ⟨g3, g4⟩ := AI.pops 6 g2 (by omega)
    rw [show 0 + (l.take 6).length - 6 = 0 by omega] at g4
    have g5 := ih g4.turn (by omega)
    refine (g1.app g3).app ?_
    rw [runQ_app]
    exact g5
theorem agrees_plain (N : Int) (hN : 0 ≤ N ∧ N ≤ 900000) (ls : List (List Int)) (hl : ls.length ≤ 30) (k : Nat) (hq : (runQ (startQ N) ((deedsFrom false ls).take k)).quiet = true) :
    ((runQ (startQ N) ((deedsFrom false ls).take k)).sd false).m = ((runQ (startQ N) ((deedsFrom false ls).take k)).sd true).m := by
  have h0 : AI false 0 900000 (startQ N) := ⟨⟨rfl, rfl, rfl⟩, ⟨rfl, rfl, rfl⟩, by show N = N + ((0 : Nat) : Int); omega, hN.1, hN.2, rfl, rfl⟩
  obtain ⟨s, c, M, h⟩ := AI.all ls h0 (by omega) k
  generalize runQ (startQ N) ((deedsFrom false ls).take k) = p at h hq
  have hc : c = 0 := by
    have h1 : (p.q (!s)).length = 0 := by
      simp only [PQ.quiet, Bool.and_eq_true, decide_eq_true_eq] at hq
      cases s
      · exact hq.1.1.1.1.2
      · exact hq.1.1.1.1.1
    rw [h.qo, mins_len] at h1
    exact h1
  have := h.m
  rw [hc] at this
  cases s
  · simpa using this
  · simpa using this.symm
end Go.Proofs.Ytjgmlnkbplgloaa
