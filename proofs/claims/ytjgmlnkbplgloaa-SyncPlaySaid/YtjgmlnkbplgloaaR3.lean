import Derived.Test.YtjgmlnkbplgloaaR2
namespace Go.Proofs.Ytjgmlnkbplgloaa
open Go.RowKit
set_option linter.unusedVariables false
set_option linter.unusedSimpArgs false
set_option maxHeartbeats 8000000
set_option maxRecDepth 20000
/-- The reference's side in memory: its lists are its own (they grow in place), in the blocks bo, bt. -/
def RM (w : World) (b : Nat) (s : RS) (bo bt : Option Nat) : Prop := ∃ vo vt, Pt w b TRef (s.cells vo vt) ∧ Row 1 w vo s.own.length (ints s.own) bo ∧ Row 1 w vt s.other.length (ints s.other) bt ∧
  (∀ z, bo = some z → z ≠ b ∧ bt ≠ some z) ∧ ∀ z, bt = some z → z ≠ b
theorem RM.fr {w w' : World} {b : Nat} {s : RS} {bo bt : Option Nat} (h : RM w b s bo bt) {ex : List Nat} (hf : Fr ex w w') (hx : b ∉ ex ∧ (∀ z, bo = some z → z ∉ ex) ∧ ∀ z, bt = some z → z ∉ ex) : RM w' b s bo bt := by
  obtain ⟨vo, vt, hp, ho, ht, h1, h2⟩ := h
  exact ⟨vo, vt, hf.pt hp hx.1, ho.fr hf hx.2.1, ht.fr hf hx.2.2, h1, h2⟩
theorem RM.fr0 {w w' : World} {b : Nat} {s : RS} {bo bt : Option Nat} (h : RM w b s bo bt) (hf : Fr [] w w') : RM w' b s bo bt := h.fr hf ⟨by simp, by simp, by simp⟩
theorem RM.put {w : World} {b : Nat} {s s' : RS} {bo bt : Option Nat} {j : Nat} {v : Value} (h : RM w b s bo bt) (e : ∀ vo vt, (s.cells vo vt).set j v = s'.cells vo vt) (ho : s'.own = s.own) (ht : s'.other = s.other) : RM (w.setCell ⟨b, j, none⟩ v) b s' bo bt := by
  obtain ⟨vo, vt, hp, h1, h2, h3, h4⟩ := h
  have FS : Fr [b] w (w.setCell ⟨b, j, none⟩ v) := (Fr.refl _ _).setCell (by simp) _
  exact ⟨vo, vt, hp.set' (e vo vt), by rw [ho]; exact h1.fr FS (fun z hz => by have := (h3 z hz).1; simp; exact this), by rw [ht]; exact h2.fr FS (fun z hz => by have := h4 z hz; simp; exact this), h3, h4⟩
theorem RM.lt {w : World} {b : Nat} {s : RS} {bo bt : Option Nat} (h : RM w b s bo bt) : b < w.heap.size := by
  obtain ⟨vo, vt, hp, _⟩ := h
  exact hp.lt
theorem rnew_ok (f : Bool) (n : Int) (w : World) (h0 : 0 ≤ n ∧ n ≤ 999999) :
    Calls Try.prog 15 #[.bool f, .int .i64 n] w fun e w' => e = .returned (.tuple #[.pointer (some ⟨w.heap.size, 0, none⟩), .int .i64 0]) ∧ RM w' w.heap.size ⟨f, n, n, n, 0, [], [], false, 0, 0, false, 0, 0⟩ none none ∧ Fr [] w w' := by
  have h1 : ¬ n < 0 := by omega
  have h2 : ¬ 999999 < n := by omega
  go_enter Try.func15, Try.ntmps15
  go_wp2_with fail
  go_ret2
  exact ⟨rfl, ⟨.slice none 0 0, .slice none 0 0, Pt.newA _ _ _, Row.nil 1 _ none, Row.nil 1 _ none, by simp, by simp⟩, (Fr.refl _ _).alloc _⟩
theorem rnew_bad (f : Bool) (n : Int) (w : World) (h0 : n < 0 ∨ 999999 < n) :
    Calls Try.prog 15 #[.bool f, .int .i64 n] w fun e w' => e = .returned (.tuple #[.pointer none, .int .i64 1]) ∧ w = w' := by
  rcases (by omega : n < 0 ∨ (¬ n < 0 ∧ 999999 < n)) with h1 | ⟨h1, h2⟩
  all_goals
    go_enter Try.func15, Try.ntmps15
    go_wp2_with fail
    go_ret2
    exact ⟨rfl, rfl⟩
theorem new_bad (f : Bool) (n : Int) (w : World) (h0 : n < 0 ∨ 999999 < n) :
    Calls Try.prog 9 #[.bool f, .int .i64 n] w fun e w' => e = .returned (.tuple #[.pointer none, .int .i64 1]) ∧ w = w' := by
  rcases (by omega : n < 0 ∨ (¬ n < 0 ∧ 999999 < n)) with h1 | ⟨h1, h2⟩
  all_goals
    go_enter Try.func9, Try.ntmps9
    go_wp2_with fail
    go_ret2
    exact ⟨rfl, rfl⟩
theorem rank_any (h : Int) (w : World) (hh : h = 0 ∨ h = 1 ∨ h = 2) : Calls Try.prog 59 #[.int .i64 h] w fun e w' => e = .returned (.int .i64 (rankI h)) ∧ Fr [] w w' := by
  have h03 : (0 : Int) < 3 := by omega
  have h13 : (1 : Int) < 3 := by omega
  have h23 : (2 : Int) < 3 := by omega
  rcases hh with rfl | rfl | rfl
  all_goals
    go_enter Try.func59, Try.ntmps59
    go_wp2_with fail
    go_ret
    exact ⟨rfl, (Fr.refl _ _).alloc _⟩
theorem rasked_any (b : Nat) (s : RS) (bo bt : Option Nat) (w : World) (h : RM w b s bo bt) :
    Calls Try.prog 31 #[.pointer (some ⟨b, 0, none⟩)] w fun e w' => e = .returned (if s.kt = true then .tuple #[.int .i64 s.kh, .int .i64 s.kn, .int .i64 0] else .tuple #[.int .i64 0, .int .i64 0, .int .i64 8]) ∧ Fr [] w w' := by
  obtain ⟨vo, vt, hp, ho, ht, _, _⟩ := h
  have hc := hp.cell
  cases hk : s.kt
  · rw [if_neg (by simp)]
    simp only [RS.cells, hk] at hc
    clear hp ho ht
    go_enter Try.func31, Try.ntmps31
    go_wp2_with fail
    exact bodyPost_ret (v := .tuple #[.int .i64 0, .int .i64 0, .int .i64 8]) (by simp [results, Try.results31, go_sem]) rfl ⟨rfl, Fr.refl _ _⟩
  · rw [if_pos rfl]
    simp only [RS.cells, hk] at hc
    clear hp ho ht
    go_enter Try.func31, Try.ntmps31
    go_wp2_with fail
    go_quiet (fail)
    go_wp2
    exact bodyPost_ret (v := .tuple #[.int .i64 s.kh, .int .i64 s.kn, .int .i64 0]) (by simp [results, Try.results31, go_sem]) rfl ⟨rfl, (Fr.refl _ _).drewN _⟩
end Go.Proofs.Ytjgmlnkbplgloaa
