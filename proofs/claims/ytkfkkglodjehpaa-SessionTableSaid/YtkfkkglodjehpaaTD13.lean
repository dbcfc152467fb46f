import Derived.Test.YtkfkkglodjehpaaTD8b
namespace Go.Proofs.Ytkfkkglodjehpaa
open Go.RowKit
set_option linter.unusedVariables false
set_option linter.unusedSimpArgs false
/-! ### The word that differ finds is a shortest one -/
def Dist (T U : Tb) : Int → Int → List Int → Prop
  | _, _, [] => False
  | a, b, e :: w => 0 ≤ e ∧ e < T.ev ∧ ((diffR (T.at a e) (U.at b e) = true ∧ w = []) ∨ (diffR (T.at a e) (U.at b e) = false ∧ 0 ≤ (T.at a e).1 ∧ Dist T U (T.at a e).1 (U.at b e).1 w))
def Path (T U : Tb) : Int → Int → List Int → Int × Int → Prop
  | a, b, [], p => p = (a, b)
  | a, b, e :: w, p => 0 ≤ e ∧ e < T.ev ∧ diffR (T.at a e) (U.at b e) = false ∧ 0 ≤ (T.at a e).1 ∧ Path T U (T.at a e).1 (U.at b e).1 w p
theorem Path.snoc {T U : Tb} {p : Int × Int} {e : Int} (h0 : 0 ≤ e) (h1 : e < T.ev) (hd : diffR (T.at p.1 e) (U.at p.2 e) = false) (hn : 0 ≤ (T.at p.1 e).1) : ∀ (w : List Int) (a b : Int), Path T U a b w p → Path T U a b (w ++ [e]) ((T.at p.1 e).1, (U.at p.2 e).1)
  | [], a, b, h => by
    have h' : p = (a, b) := h
    subst h'
    exact ⟨h0, h1, hd, hn, rfl⟩
  | x :: w, a, b, h => ⟨h.1, h.2.1, h.2.2.1, h.2.2.2.1, Path.snoc h0 h1 hd hn w _ _ h.2.2.2.2⟩
theorem Path.dist {T U : Tb} {p : Int × Int} {e : Int} (h0 : 0 ≤ e) (h1 : e < T.ev) (hd : diffR (T.at p.1 e) (U.at p.2 e) = true) : ∀ (w : List Int) (a b : Int), Path T U a b w p → Dist T U a b (w ++ [e])
  | [], a, b, h => by
    have h' : p = (a, b) := h
    subst h'
    exact ⟨h0, h1, .inl ⟨hd, rfl⟩⟩
  | x :: w, a, b, h => ⟨h.1, h.2.1, .inr ⟨h.2.2.1, h.2.2.2.1, Path.dist h0 h1 hd w _ _ h.2.2.2.2⟩⟩
/-- Told apart by a word of at most so many events. -/
def Near (T U : Tb) : Nat → Int → Int → Prop
  | 0, _, _ => False
  | m + 1, a, b => ∃ e : Int, 0 ≤ e ∧ e < T.ev ∧ (diffR (T.at a e) (U.at b e) = true ∨ (0 ≤ (T.at a e).1 ∧ 0 ≤ (U.at b e).1 ∧ Near T U m (T.at a e).1 (U.at b e).1))
theorem near_of_ap {T U : Tb} {a b : Int} (h : Ap T U a b) : ∃ m, Near T U m a b := by
  induction h with
  | here h0 h1 hd => exact ⟨1, _, h0, h1, .inl hd⟩
  | next h0 h1 h2 h3 _ ih => obtain ⟨m, hm⟩ := ih; exact ⟨m + 1, _, h0, h1, .inr ⟨h2, h3, hm⟩⟩
theorem dfRow_shape (word : List Int) : ∀ (ps : List ((Int × Int) × (Int × Int))) (e : Nat) (L : List Vis),
    (∀ w, dfRow word e ps L = .inl w → ∃ (k : Nat) (h : k < ps.length), w = word ++ [((e + k : Nat) : Int)] ∧ diffR ps[k].1 ps[k].2 = true) ∧
    (∀ L', dfRow word e ps L = .inr L' → ∃ r, L' = L ++ r ∧ ∀ x ∈ r, ∃ (k : Nat) (h : k < ps.length), x = ((ps[k].1.1, ps[k].2.1), word ++ [((e + k : Nat) : Int)]) ∧ 0 ≤ ps[k].1.1 ∧ diffR ps[k].1 ps[k].2 = false)
  | [], e, L => ⟨(fun w h => by cases h), (fun L' h => by cases h; exact ⟨[], by simp, fun x hx => by simp at hx⟩)⟩
  | p :: ps, e, L => by
    obtain ⟨h1, h2⟩ := dfRow_shape word ps (e + 1) (pushV word e p.1 p.2 L)
    unfold dfRow
    cases hd : diffR p.1 p.2 with
    | true =>
      refine ⟨fun w h => ?_, fun L' h => by simp at h⟩
      refine ⟨0, by simp, ?_, hd⟩
      simpa using h.symm
    | false =>
      refine ⟨fun w h => ?_, fun L' h => ?_⟩
      · simp only [Bool.false_eq_true, if_false] at h
        obtain ⟨k, hk, e1, e2⟩ := h1 w h
        exact ⟨k + 1, by simp; omega, by rw [e1]; congr 3; omega, by simpa using e2⟩
      · simp only [Bool.false_eq_true, if_false] at h
        obtain ⟨r, e1, e2⟩ := h2 L' h
        have hold : ∀ x ∈ r, ∃ (k : Nat) (h : k < (p :: ps).length), x = (((p :: ps)[k].1.1, (p :: ps)[k].2.1), word ++ [((e + k : Nat) : Int)]) ∧ 0 ≤ (p :: ps)[k].1.1 ∧ diffR (p :: ps)[k].1 (p :: ps)[k].2 = false := fun x hx => by
          obtain ⟨k, hk, g1, g2, g3⟩ := e2 x hx
          exact ⟨k + 1, by simp; omega, by rw [g1, show e + 1 + k = e + (k + 1) by omega]; rfl, by simpa using g2, by simpa using g3⟩
        unfold pushV at e1
        split at e1
        · exact ⟨r, e1, hold⟩
        · split at e1
          · exact ⟨r, e1, hold⟩
          · refine ⟨_ :: r, by rw [e1, List.append_assoc]; rfl, fun x hx => ?_⟩
            rcases List.mem_cons.mp hx with rfl | hx
            · exact ⟨0, by simp, by simp, by simp; omega, hd⟩
            · exact hold x hx
theorem rowsAt_get {T U : Tb} (hT : VT T) (hU : VT U) (hev : T.ev = U.ev) {a b : Int} (ha : 0 ≤ a ∧ a < T.st) (hb : 0 ≤ b ∧ b < U.st) (k : Nat) (hk : k < (rowsAt T U (a, b)).length) : (k : Int) < T.ev ∧ (rowsAt T U (a, b))[k] = (T.at a k, U.at b k) := by
  have h1 := hT.len ha.1 ha.2
  have h2 := hU.len hb.1 hb.2
  have r1 := hT.row _ (List.getElem_mem h1)
  have r2 := hU.row _ (List.getElem_mem h2)
  have e1 : rowsAt T U (a, b) = (T.rows[a.toNat]).zip (U.rows[b.toNat]) := by
    unfold rowsAt
    rw [List.getD_eq_getElem?_getD, List.getD_eq_getElem?_getD, List.getElem?_eq_getElem h1, List.getElem?_eq_getElem h2]; rfl
  have hk' : k < ((T.rows[a.toNat]).zip (U.rows[b.toNat])).length := by rw [← e1]; exact hk
  simp at hk'
  refine ⟨by omega, ?_⟩
  obtain ⟨_, he, e2⟩ := hT.get (s := a) (e := (k : Int)) ha.1 ha.2 (by omega) (by omega)
  obtain ⟨_, he', e3⟩ := hU.get (s := b) (e := (k : Int)) hb.1 hb.2 (by omega) (by omega)
  rw [e2, e3]
  have : (rowsAt T U (a, b))[k] = ((T.rows[a.toNat]).zip (U.rows[b.toNat]))[k]'(by simp; omega) := by congr 1
  rw [this, List.getElem_zip]; rfl
structure Bf (T U : Tb) (a b : Int) (i : Nat) (L : List Vis) : Prop where
  ok : DvOk T U L
  root : ∃ h : 0 < L.length, L[0] = ((a, b), [])
  path : ∀ k (h : k < L.length), Path T U a b L[k].2 L[k].1
  mono : ∀ j j' (h : j ≤ j') (h' : j' < L.length), L[j].2.length ≤ L[j'].2.length
  top : ∀ j (hj : j < L.length) (hi : i < L.length), L[j].2.length ≤ L[i].2.length + 1
  done : ∀ j (hj : j < L.length), j < i → ∀ e : Int, 0 ≤ e → e < T.ev → diffR (T.at L[j].1.1 e) (U.at L[j].1.2 e) = false ∧ (0 ≤ (T.at L[j].1.1 e).1 → ∃ (j' : Nat) (h' : j' < L.length), L[j'].1 = ((T.at L[j].1.1 e).1, (U.at L[j].1.2 e).1) ∧ L[j'].2.length ≤ L[j].2.length + 1)
theorem Bf.find {T U : Tb} {a b : Int} {i : Nat} {L : List Vis} (h : Bf T U a b i L) : ∀ (m j : Nat) (hj : j < L.length), Near T U m L[j].1.1 L[j].1.2 → ∃ (k : Nat) (hk : k < L.length) (n : Nat), i ≤ k ∧ 1 ≤ n ∧ L[k].2.length + n ≤ L[j].2.length + m
  | 0, j, hj, hn => by cases hn
  | m + 1, j, hj, hn => by
    by_cases hji : i ≤ j
    · exact ⟨j, hj, m + 1, hji, by omega, Nat.le_refl _⟩
    · obtain ⟨e, h0, h1, h2⟩ := hn
      obtain ⟨hd, hnx⟩ := h.done j hj (by omega) e h0 h1
      rcases h2 with h2 | ⟨h2, h3, h4⟩
      · rw [hd] at h2; cases h2
      · obtain ⟨j', hj', e1, e2⟩ := hnx h2
        obtain ⟨k, hk, n, g1, g2, g3⟩ := h.find m j' hj' (by rw [e1]; exact h4)
        exact ⟨k, hk, n, g1, g2, by omega⟩
theorem dfF_short {T U : Tb} (hT : VT T) (hU : VT U) (hev : T.ev = U.ev) {a b : Int} : ∀ (f i : Nat) (L : List Vis) (w : List Int), Bf T U a b i L → dfF T U f i L = some w → Dist T U a b w ∧ ∀ m, Near T U m a b → w.length ≤ m
  | 0, i, L, w, _, h => by simp [dfF] at h
  | f + 1, i, L, w, hB, h => by
    by_cases hlt : i < L.length
    · have hrg := hB.ok.rng i hlt
      have hget : ∀ (k : Nat) (hk : k < (rowsAt T U L[i].1).length), (k : Int) < T.ev ∧ (rowsAt T U L[i].1)[k] = (T.at L[i].1.1 k, U.at L[i].1.2 k) := fun k hk => rowsAt_get hT hU hev (a := L[i].1.1) (b := L[i].1.2) ⟨hrg.1, hrg.2.1⟩ ⟨hrg.2.2.1, hrg.2.2.2⟩ k hk
      obtain ⟨hs1, hs2⟩ := dfRow_shape L[i].2 (rowsAt T U L[i].1) 0 L
      unfold dfF at h
      rw [if_pos hlt, List.getD_eq_getElem?_getD, List.getElem?_eq_getElem hlt] at h
      simp only [Option.getD_some] at h
      cases hR : dfRow L[i].2 0 (rowsAt T U L[i].1) L with
      | inl w' =>
        rw [hR] at h
        have hw : w' = w := by simpa using h
        subst hw
        obtain ⟨k, hk, e1, e2⟩ := hs1 _ hR
        obtain ⟨h1, h2⟩ := hget k hk
        rw [h2] at e2
        rw [Nat.zero_add] at e1
        subst e1
        refine ⟨Path.dist (by omega) h1 e2 _ _ _ (hB.path i hlt), fun m hm => ?_⟩
        obtain ⟨h0, hr⟩ := hB.root
        obtain ⟨k', hk', n, g1, g2, g3⟩ := hB.find m 0 h0 (by rw [hr]; exact hm)
        have := hB.mono i k' g1 hk'
        rw [hr] at g3
        simp at g3 ⊢
        omega
      | inr L' =>
        rw [hR] at h
        obtain ⟨r, e1, e2⟩ := hs2 _ hR
        obtain ⟨_, hc2, _⟩ := dfRow_inr _ _ _ _ _ hR
        obtain ⟨_, hr2⟩ := rowsAt_mem hT hU hev (a := L[i].1.1) (b := L[i].1.2) ⟨hrg.1, hrg.2.1⟩ ⟨hrg.2.2.1, hrg.2.2.2⟩
        have hO' := dfRow_ok (T := T) (U := U) _ _ _ _ (fun p hp => by
          obtain ⟨k, hk, rfl⟩ := List.getElem_of_mem hp
          obtain ⟨h1, h2⟩ := hget k hk
          rw [h2]
          exact ⟨(hT.atOk hrg.1 hrg.2.1 (by omega) h1).2.1, (hU.atOk hrg.2.2.1 hrg.2.2.2 (by omega) (by omega)).2.1⟩) hB.ok (by have := hB.ok.len i hlt; omega) hR
        subst e1
        have hrl : ∀ j (hj : j < (L ++ r).length), L.length ≤ j → (L ++ r)[j].2.length = L[i].2.length + 1 := fun j hj hl => by
          rw [List.getElem_append_right hl]
          obtain ⟨k, hk, g1, _⟩ := e2 _ (List.getElem_mem (by simp at hj; omega : j - L.length < r.length))
          rw [g1]; simp
        have hall : ∀ j (hj : j < (L ++ r).length), (L ++ r)[j].2.length ≤ L[i].2.length + 1 := fun j hj => by
          by_cases hl : j < L.length
          · rw [List.getElem_append_left hl]; exact hB.top j hl hlt
          · rw [hrl j hj (by omega)]; exact Nat.le_refl _
        have hmono : ∀ j j' (h : j ≤ j') (h' : j' < (L ++ r).length), (L ++ r)[j].2.length ≤ (L ++ r)[j'].2.length := fun j j' hjj h' => by
          by_cases hl : j' < L.length
          · rw [List.getElem_append_left hl, List.getElem_append_left (by omega : j < L.length)]; exact hB.mono j j' hjj hl
          · rw [hrl j' h' (by omega)]; exact hall j (by omega)
        refine dfF_short hT hU hev f (i + 1) (L ++ r) w ⟨hO', ?_, fun k hk => ?_, hmono, fun j hj hi => ?_, fun j hj hji e h0 h1 => ?_⟩ h
        · obtain ⟨h0, hr⟩ := hB.root
          exact ⟨by simp; omega, by rw [List.getElem_append_left h0]; exact hr⟩
        · by_cases hl : k < L.length
          · rw [List.getElem_append_left hl]; exact hB.path k hl
          · rw [List.getElem_append_right (by omega)]
            obtain ⟨k', hk', g1, g2, g3⟩ := e2 _ (List.getElem_mem (by simp at hk; omega : k - L.length < r.length))
            obtain ⟨h1, h2⟩ := hget k' hk'
            rw [h2] at g1 g2 g3
            rw [g1, Nat.zero_add]
            exact Path.snoc (p := L[i].1) (by omega) h1 g3 g2 _ _ _ (hB.path i hlt)
        · have h1 := hall j hj
          have h2 := hmono i (i + 1) (by omega) hi
          rw [List.getElem_append_left hlt] at h2
          omega
        · by_cases hke : j < i
          · have hkl : j < L.length := by omega
            rw [List.getElem_append_left hkl]
            obtain ⟨g1, g2⟩ := hB.done j hkl hke e h0 h1
            refine ⟨g1, fun hn => ?_⟩
            obtain ⟨j', hj', g3, g4⟩ := g2 hn
            exact ⟨j', by simp; omega, by rw [List.getElem_append_left hj']; exact g3, by rw [List.getElem_append_left hj']; exact g4⟩
          · obtain rfl : j = i := by omega
            rw [List.getElem_append_left hlt]
            have := hc2 _ (hr2 e h0 h1)
            refine ⟨this.1, fun hn => ?_⟩
            obtain ⟨x, hx, g3⟩ := List.mem_map.mp (this.2 hn)
            obtain ⟨j', hj', rfl⟩ := List.getElem_of_mem hx
            exact ⟨j', hj', g3, hall j' hj'⟩
    · rw [dfF_more _ _ _ _ _ (by omega)] at h; cases h
theorem differT_short {T U : Tb} (hT : VT T) (hU : VT U) (hev : T.ev = U.ev) {a b : Int} (ha : 0 ≤ a ∧ a < T.st) (hb : 0 ≤ b ∧ b < U.st) (w : List Int) (h : differT T U a b = some w) : Dist T U a b w ∧ ∀ m, Near T U m a b → w.length ≤ m := by
  refine dfF_short hT hU hev 1000 0 _ w ⟨DvOk.start ha hb, ⟨by simp, rfl⟩, fun k hk => ?_, fun j j' hjj h' => ?_, fun j hj hi => ?_, fun j hj hji => by omega⟩ h
  · obtain rfl : k = 0 := by simp at hk; omega
    rfl
  · obtain rfl : j' = 0 := by simp at h'; omega
    obtain rfl : j = 0 := by omega
    exact Nat.le_refl _
  · obtain rfl : j = 0 := by simp at hj; omega
    simp
end Go.Proofs.Ytkfkkglodjehpaa
