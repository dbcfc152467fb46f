import Derived.Test.YtnggimkkjdipmaaTL11
namespace Go.Proofs.Ytnggimkkjdipmaa
open Go.RowKit
set_option linter.unusedVariables false
set_option linter.unusedSimpArgs false
/-! ### Reach and Missing, plain -/
/-- The states that can be reached, ascending. -/
def reachL (T : Tb) : List Int := ((List.range T.st.toNat).map fun k : Nat => (k : Int)).filter fun s => decide (s ∈ orderT T)
def missRow (s : Int) : Nat → List (Int × Int) → List (Int × Int)
  | _, [] => []
  | e, r :: rs => if r.1 < 0 then (s, (e : Int)) :: missRow s (e + 1) rs else missRow s (e + 1) rs
def missL (T : Tb) : List (Int × Int) := (reachL T).flatMap fun s => missRow s 0 (T.rows.getD s.toNat [])
def reachF (T : Tb) : List Int × Int := if validT T then (reachL T, 0) else ([], 1)
def missF (T : Tb) : List (Int × Int) × Int := if validT T then (missL T, 0) else ([], 1)
theorem reachL_mem {T : Tb} (hT : VT T) (s : Int) : s ∈ reachL T ↔ s ∈ orderT T := by
  unfold reachL
  rw [List.mem_filter, decide_eq_true_eq]
  refine ⟨fun h => h.2, fun h => ⟨?_, h⟩⟩
  have hr := (order_ok hT).rng s h
  exact List.mem_map.mpr ⟨s.toNat, List.mem_range.mpr (by omega), by omega⟩
theorem reachL_sorted (T : Tb) : (reachL T).Pairwise (· < ·) := by
  unfold reachL
  refine List.Pairwise.filter _ ?_
  rw [List.pairwise_map]
  exact List.Pairwise.imp (fun h => by omega) List.pairwise_lt_range
/-- Two ascending lists with the same members are one. -/
theorem sorted_eq : ∀ (l m : List Int), l.Pairwise (· < ·) → m.Pairwise (· < ·) → (∀ x, x ∈ l ↔ x ∈ m) → l = m
  | [], [], _, _, _ => rfl
  | [], y :: m, _, _, h => by have := (h y).mpr (by simp); simp at this
  | x :: l, [], _, _, h => by have := (h x).mp (by simp); simp at this
  | x :: l, y :: m, hl, hm, h => by
    rw [List.pairwise_cons] at hl hm
    have hxy : x = y := by
      have h1 := (h x).mp (by simp)
      have h2 := (h y).mpr (by simp)
      rcases List.mem_cons.mp h1 with e | e
      · exact e
      · rcases List.mem_cons.mp h2 with e' | e'
        · exact e'.symm
        · have := hm.1 x e; have := hl.1 y e'; omega
    subst hxy
    congr 1
    refine sorted_eq l m hl.2 hm.2 fun z => ?_
    constructor
    · intro hz
      have := (h z).mp (by simp [hz])
      rcases List.mem_cons.mp this with e | e
      · subst e; have := hl.1 z hz; omega
      · exact e
    · intro hz
      have := (h z).mpr (by simp [hz])
      rcases List.mem_cons.mp this with e | e
      · subst e; have := hm.1 z hz; omega
      · exact e
/-! #### reached: passes over one row of bools -/
/-- So far: the start, nothing that cannot be reached. -/
def SoR (T : Tb) (R : Nat → Bool) : Prop := R T.sr.toNat = true ∧ ∀ s : Nat, (s : Int) < T.st → R s = true → (s : Int) ∈ orderT T
def CloR (T : Tb) (R R' : Nat → Bool) (s : Nat) : Prop := R s = true → ∀ e : Nat, (e : Int) < T.ev → 0 ≤ (T.at s e).1 → R' (T.at s e).1.toNat = true
theorem walk_least {T : Tb} (hT : VT T) : ∀ (f i : Nat) (L : List (Int × List Int)) (P : Int → Prop), WOk T L → (∀ s ∈ keyW L, P s) → (∀ s, 0 ≤ s → s < T.st → P s → ∀ e : Int, 0 ≤ e → e < T.ev → 0 ≤ (T.at s e).1 → P (T.at s e).1) → ∀ s ∈ keyW (walkF T f i L), P s
  | 0, i, L, P, _, h, _ => h
  | f + 1, i, L, P, hO, h, hP => by
    unfold walkF
    by_cases hlt : i < L.length
    · rw [if_pos hlt]
      have hrg := hO.rng _ (List.getElem_mem hlt)
      have e0 : L.getD i (0, []) = L[i] := by rw [List.getD_eq_getElem?_getD, List.getElem?_eq_getElem hlt]; rfl
      obtain ⟨hr1, _, _⟩ := row_at hT (s := L[i].1) hrg
      unfold wRound
      rw [e0]
      obtain ⟨_, _, h3⟩ := wRow_law L[i].2 (T.rows.getD L[i].1.toNat []) 0 L
      have hO' := (wRow_ok (T := T) (fun _ => trivial) L[i].2 (T.rows.getD L[i].1.toNat []) 0 L (fun r hr => by
        obtain ⟨e, g0, g1, rfl⟩ := hr1 r hr
        exact (hT.atOk hrg.1 hrg.2 g0 g1).2.1) hO (by have := hO.len i hlt; omega)).1
      refine walk_least hT f (i + 1) _ P hO' (fun s hs => ?_) hP
      rcases h3 s hs with h4 | ⟨r, hr, h5, rfl⟩
      · exact h s h4
      · obtain ⟨e, g0, g1, rfl⟩ := hr1 r hr
        exact hP _ hrg.1 hrg.2 (h _ (List.mem_map.mpr ⟨_, List.getElem_mem hlt, rfl⟩)) e g0 g1 h5
    · rw [if_neg hlt]; exact h
/-- Sound and closed: just what can be reached. -/
theorem reach_iff {T : Tb} (hT : VT T) {R : Nat → Bool} (h : SoR T R) (hC : ∀ s : Nat, (s : Int) < T.st → CloR T R R s) (s : Nat) (hs : (s : Int) < T.st) : R s = true ↔ (s : Int) ∈ orderT T := by
  refine ⟨h.2 s hs, fun hm => ?_⟩
  have := walk_least hT 40 0 [(T.sr, [])] (fun x => 0 ≤ x ∧ x < T.st ∧ R x.toNat = true) (WOk.start hT) (fun x hx => by simp at hx; subst hx; exact ⟨hT.sr.1, hT.sr.2, h.1⟩) (fun x h0 h1 hx e g0 g1 hn => by
    have r1 := hT.atOk h0 h1 g0 g1
    refine ⟨hn, r1.2.1, ?_⟩
    have := hC x.toNat (by omega) hx.2.2 e.toNat (by omega)
    rw [Int.toNat_of_nonneg h0, Int.toNat_of_nonneg g0] at this
    exact this hn) (s : Int) hm
  simpa using this.2.2
end Go.Proofs.Ytnggimkkjdipmaa
