import Derived.Test.YtjgmlnkbplgloaaR17
namespace Go.Proofs.Ytjgmlnkbplgloaa
open Go.RowKit
set_option linter.unusedVariables false
set_option linter.unusedSimpArgs false
set_option maxHeartbeats 8000000
set_option maxRecDepth 20000
section
variable {base : Nat} {w : World} {bp : Nat} {bb : Bool → Nat} {rs : Bool → RS} {q : Bool → List Ev} {v : Bool → Value} {o ro rt : Bool → Option Nat} {lab : Nat → Nat}
/-- The first event on the way to a side is taken. -/
theorem RQ.pop (h : RQ base w bp bb rs q v o ro rt lab) (i : Bool) {e : Ev} {t : List Ev} (hq : q i = e :: t) :
    ∃ b off cap, v i = .slice (some ⟨b, off, none⟩) (t.length + 1) cap ∧ t.length + 1 ≤ cap ∧ b < w.heap.size ∧ b ≠ bp ∧ (∀ j, j < 6 → w.cell? ⟨b, off + j, none⟩ = e.cells[j]?) ∧
      ∀ w', Fr [] w w' → ∀ u, u = (if cap = 1 then Value.slice (some ⟨b, off, none⟩) t.length 0 else .slice (some ⟨b, off + 6, none⟩) t.length (cap - 1)) →
        (∃ o', RQ base (w'.setCell ⟨bp, 2 + i.toNat, none⟩ u) bp bb rs (upd q i t) (upd v i u) o' ro rt lab) ∧ Below base w (w'.setCell ⟨bp, 2 + i.toNat, none⟩ u) := by
  have hr := h.row i
  rw [hq] at hr
  rcases hr with ⟨_, h2, _⟩ | ⟨b, off, cap, hb, hv, h3, h4, h5, h6, h7⟩
  · simp at h2
  refine ⟨b, off, cap, hv, h3, h4, fun e2 => (by subst e2; have := h.lo i _ hb; have := h.l0; omega), fun j hj => ?_, fun w' f u hu => ?_⟩
  · rw [h7 j (by simp; omega)]
    show (e.cells ++ evCells t)[j]? = _
    rw [List.getElem?_append_left (show j < 6 from hj)]
  have HQ := h.fr0 f
  have FS : Fr [bp] w' (w'.setCell ⟨bp, 2 + i.toNat, none⟩ u) := (Fr.refl _ _).setCell (by simp) _
  have hcl : (evCells (e :: t)).length = 6 + (evCells t).length := by show (e.cells ++ evCells t).length = _; rw [List.length_append]; rfl
  have RR : ∃ o', Row 6 w' u t.length (evCells t) o' ∧ (∀ z, o' = some z → o i = some z) := by
    by_cases hc1 : cap = 1
    · rw [if_pos hc1] at hu
      have hr0 : t = [] := by cases t with | nil => rfl | cons _ _ => simp at h3; omega
      subst hr0
      rw [hu]
      exact ⟨none, Row.nil 6 w' _, by simp⟩
    · rw [if_neg hc1] at hu
      refine ⟨some b, .inr ⟨b, off + 6, cap - 1, rfl, hu, by simp at h3; omega, Nat.lt_of_lt_of_le h4 f.size, ?_, fun j hj => ?_, fun j hj => ?_⟩, fun z hz => by rw [hb]; exact hz⟩
      · simp only [List.length_cons] at h5; omega
      · rw [f.cell (p := ⟨b, off + 6 + j, none⟩) h4 (by simp), f.frozen (p := ⟨b, off + 6 + j, none⟩) h4 (by simp), Nat.add_assoc]; exact h6 _ (by omega)
      · rw [f.cell (p := ⟨b, off + 6 + j, none⟩) h4 (by simp), Nat.add_assoc, h7 _ (by simp only [List.length_cons]; omega)]
        show (e.cells ++ evCells t)[6 + j]? = _
        rw [List.getElem?_append_right (show 6 ≤ 6 + j by omega)]
        congr 1
        show 6 + j - 6 = j
        omega
  obtain ⟨o', hR, ho'⟩ := RR
  have nb : ∀ (k : Bool) z, o k = some z → z ∉ [bp] := fun k z hz hm => by rw [List.mem_singleton.mp hm] at hz; have := h.lo k _ hz; have := h.l0; omega
  refine ⟨⟨upd o i o', ?_⟩, ((f.mono (by simp)).trans FS : Fr [bp] w _).below (by have := h.gp; have := h.plt; omega) (fun x hx => by rw [List.mem_singleton.mp hx]; exact h.gp)⟩
  refine { pair := HQ.pair.set' (pair4_set _ _ v i u), row := fun j => ?_, rm := fun j => (HQ.rm j).fr FS ⟨fun hm => ?_, fun z hz hm => ?_, fun z hz hm => ?_⟩, l0 := h.l0, lb := h.lb, lo := fun j x hx => ?_, lr := h.lr, lt := h.lt, gp := h.gp, gb := h.gb, go := fun j x hx => ?_, gr := h.gr, gt := h.gt }
  · by_cases ej : j = i
    · subst ej
      rw [upd_same, upd_same, upd_same]
      exact hR.fr FS (fun z hz => nb j z (ho' z hz))
    · rw [upd_other _ _ _ _ ej, upd_other _ _ _ _ ej, upd_other _ _ _ _ ej]
      exact (HQ.row j).fr FS (nb j)
  · have hl := h.l0; rw [← List.mem_singleton.mp hm] at hl; have := h.lb j; omega
  · rw [List.mem_singleton.mp hm] at hz; have := h.lr j _ hz; have := h.l0; omega
  · rw [List.mem_singleton.mp hm] at hz; have := h.lt j _ hz; have := h.l0; omega
  · by_cases ej : j = i
    · subst ej; rw [upd_same] at hx; exact h.lo j x (ho' x hx)
    · rw [upd_other _ _ _ _ ej] at hx; exact h.lo j x hx
  · by_cases ej : j = i
    · subst ej; rw [upd_same] at hx; exact h.go j x (ho' x hx)
    · rw [upd_other _ _ _ _ ej] at hx; exact h.go j x hx
end
theorem floor_any (n m : Int) (w : World) (hm : m = 2 ∨ m = 3 ∨ m = 12) (h0 : -9223372036854775808 ≤ n) (h1 : n ≤ 9223372036854775807) :
    Calls Try.prog 53 #[.int .i64 n, .int .i64 m] w fun e w' => e = .returned (.int .i64 (n / m)) ∧ w = w' := by
  have T := tmod_cases n m (by omega)
  have e1 := Int.mul_tdiv_add_tmod n m
  have hm0 : (m == 0) = false := by rw [beq_eq_false_iff_ne]; omega
  have K : (n.tmod m < 0 ∧ wrap64 (n.tdiv m) = n.tdiv m ∧ wrap64 (n.tdiv m - 1) = n / m) ∨ (¬ n.tmod m < 0 ∧ n.tdiv m = n / m) := by
    obtain ⟨⟨h2, h3⟩, h | h⟩ := T
    · right
      refine ⟨by omega, ?_⟩
      rcases hm with rfl | rfl | rfl <;> omega
    · left
      refine ⟨by omega, ?_, ?_⟩ <;> rcases hm with rfl | rfl | rfl <;> (unfold wrap64; omega)
  clear T e1
  rcases K with ⟨k1, k2, k3⟩ | ⟨k1, k2⟩
  all_goals
    rcases hm with rfl | rfl | rfl
    all_goals
      go_enter Try.func53, Try.ntmps53
      go_wp2_with fail
      go_ret
      first | exact ⟨by rw [k3]; rfl, rfl⟩ | exact ⟨rfl, rfl⟩
end Go.Proofs.Ytjgmlnkbplgloaa
