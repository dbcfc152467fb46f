import Derived.Test.YtnggimkkjdipmaaTD8b
namespace Go.Proofs.Ytnggimkkjdipmaa
open Go.RowKit
set_option linter.unusedVariables false
set_option linter.unusedSimpArgs false
/-! ### The word that differ finds is a shortest one -/
def Dist (T U : Tb) : Int → Int → List Int → Prop
  | _, _, [] => False
  | a, b, e :: w => 0 ≤ e ∧ e < T.ev ∧ ((diffR (T.at a e) (U.at b e) = true ∧ w = []) ∨ (diffR (T.at a e) (U.at b e) = false ∧ 0 ≤ (T.at a e).1 ∧ Dist T U (T.at a e).1 (U.at b e).1 w))
def Path (T U : Tb) : Int → Int → List Int → Int × Int → Prop
  | a, b, [], p => p = (a, b)
  | a, b, e :: w, p => 0 ≤ e ∧ e < T.ev ∧ diffR (T.at a e) (U.at b e) = false ∧ 0 ≤ (T.at a e).1 ∧ Path T U (T.at a e).1 (U.at b e).1 w p
theorem Path.snoc {T U : Tb} {p : Int × Int} {e : Int} (h0 : 0 ≤ e) (h1 : e < T.ev) (hd : diffR (T.at p.1 e) (U.at p.2 e) = false) (hn : 0 ≤ (T.at p.1 e).1) : ∀ (w : List Int) (a b : Int), Path T U a b w p → Path T U a b (w ++ [e]) ((T.at p.1 e).1, (U.at p.2 e).1)
  | [], a, b, h => by
    have h' : p = (a, b) := h
    subst h'
    exact ⟨h0, h1, hd, hn, rfl⟩
  | x :: w, a, b, h => ⟨h.1, h.2.1, h.2.2.1, h.2.2.2.1, Path.snoc h0 h1 hd hn w _ _ h.2.2.2.2⟩
theorem Path.dist {T U : Tb} {p : Int × Int} {e : Int} (h0 : 0 ≤ e) (h1 : e < T.ev) (hd : diffR (T.at p.1 e) (U.at p.2 e) = true) : ∀ (w : List Int) (a b : Int), Path T U a b w p → Dist T U a b (w ++ [e])
  | [], a, b, h => by
    have h' : p = (a, b) := h
    subst h'
    exact ⟨h0, h1, .inl ⟨hd, rfl⟩⟩
  | x :: w, a, b, h => ⟨h.1, h.2.1, .inr ⟨h.2.2.1, h.2.2.2.1, Path.dist h0 h1 hd w _ _ h.2.2.2.2⟩⟩
/-- Told apart by a word of at most so many events. -/
def Near (T U : Tb) : Nat → Int → Int → Prop
  | 0, _, _ => False
  | m + 1, a, b => ∃ e : Int, 0 ≤ e ∧ e < T.ev ∧ (diffR (T.at a e) (U.at b e) = true ∨ (0 ≤ (T.at a e).1 ∧ 0 ≤ (U.at b e).1 ∧ Near T U m (T.at a e).1 (U.at b e).1))
theorem near_of_ap {T U : Tb} {a b : Int} (h : Ap T U a b) : ∃ m, Near T U m a b := by
  induction h with
  | here h0 h1 hd => exact ⟨1, _, h0, h1, .inl hd⟩
  | next h0 h1 h2 h3 _ ih => obtain ⟨m, hm⟩ := ih; exact ⟨m + 1, _, h0, h1, .inr ⟨h2, h3, hm⟩⟩
theorem dfRow_shape (word : List Int) : ∀ (ps : List ((Int × Int) × (Int × Int))) (e : Nat) (L : List Vis),
    (∀ w, dfRow word e ps L = .inl w → ∃ (k : Nat) (h : k < ps.length), w = word ++ [((e + k : Nat) : Int)] ∧ diffR ps[k].1 ps[k].2 = true) ∧
    (∀ L', dfRow word e ps L = .inr L' → ∃ r, L' = L ++ r ∧ ∀ x ∈ r, ∃ (k : Nat) (h : k < ps.length), x = ((ps[k].1.1, ps[k].2.1), word ++ [((e + k : Nat) : Int)]) ∧ 0 ≤ ps[k].1.1 ∧ diffR ps[k].1 ps[k].2 = false)
  | [], e, L => ⟨(fun w h => by cases h), (fun L' h => by cases h; exact ⟨[], by simp, fun x hx => by simp at hx⟩)⟩
  | p :: ps, e, L => by
    obtain ⟨h1, h2⟩ := dfRow_shape word ps (e + 1) (pushV word e p.1 p.2 L)
    unfold dfRow
    cases hd : diffR p.1 p.2 with
    | true =>
      refine ⟨fun w h => ?_, fun L' h => by simp at h⟩
      refine ⟨0, by simp, ?_, hd⟩
      simpa using h.symm
    | false =>
      refine ⟨fun w h => ?_, fun L' h => ?_⟩
      · simp only [Bool.false_eq_true, if_false] at h
        obtain ⟨k, hk, e1, e2⟩ := h1 w h
        exact ⟨k + 1, by simp; omega, by rw [e1]; congr 3; omega, by simpa using e2⟩
      · simp only [Bool.false_eq_true, if_false] at h
        obtain ⟨r, e1, e2⟩ := h2 L' h
        have hold : ∀ x ∈ r, ∃ (k : Nat) (h : k < (p :: ps).length), x = (((p :: ps)[k].1.1, (p :: ps)[k].2.1), word ++ [((e + k : Nat) : Int)]) ∧ 0 ≤ (p :: ps)[k].1.1 ∧ diffR (p :: ps)[k].1 (p :: ps)[k].2 = false := fun x hx => by
          obtain ⟨k, hk, g1, g2, g3⟩ := e2 x hx
          exact ⟨k + 1, by simp; omega, by rw [g1, show e + 1 + k = e + (k + 1) by omega]; rfl, by simpa using g2, by simpa using g3⟩
        unfold pushV at e1
        split at e1
        · exact ⟨r, e1, hold⟩
        · split at e1
          · exact ⟨r, e1, hold⟩
          · refine ⟨_ :: r, by rw [e1, List.append_assoc]; rfl, fun x hx => ?_⟩
            rcases List.mem_cons.mp hx with rfl | hx
            · exact ⟨0, by simp, by simp, by simp; omega, hd⟩
            · exact hold x hx
theorem rowsAt_get {T U : Tb} (hT : VT T) (hU : VT U) (hev : T.ev = U.ev) {a b : Int} (ha : 0 ≤ a ∧ a < T.st) (hb : 0 ≤ b ∧ b < U.st) (k : Nat) (hk : k < (rowsAt T U (a, b)).length) : (k : Int) < T.ev ∧ (rowsAt T U (a, b))[k] = (T.at a k, U.at b k) := by
  have h1 := hT.len ha.1 ha.2
  have h2 := hU.len hb.1 hb.2
  have r1 := hT.row _ (List.getElem_mem h1)
  have r2 := hU.row _ (List.getElem_mem h2)
  have e1 : rowsAt T U (a, b) = (T.rows[a.toNat]).zip (U.rows[b.toNat]) := by
    unfold rowsAt
    rw [List.getD_eq_getElem?_getD, List.getD_eq_getElem?_getD, List.getElem?_eq_getElem h1, List.getElem?_eq_getElem h2]; rfl
  have hk' : k < ((T.rows[a.toNat]).zip (U.rows[b.toNat])).length := by rw [← e1]; exact hk
  simp at hk'
  refine ⟨by omega, ?_⟩
  obtain ⟨_, he, e2⟩ := hT.get (s := a) (e := (k : Int)) ha.1 ha.2 (by omega) (by omega)
  obtain ⟨_, he', e3⟩ := hU.get (s := b) (e := (k : Int)) hb.1 hb.2 (by omega) (by omega)
  rw [e2, e3]
  have : (rowsAt T U (a, b))[k] = ((T.rows[a.toNat]).zip (U.rows[b.toNat]))[k]'(by simp; omega) := by congr 1
  rw [this, List.getElem_zip]; rfl
structure Bf (T U : Tb) (a b : Int) (i : Nat) (L : List Vis) : Prop where
  ok : DvOk T U L
  root : ∃ h : 0 < L.length, L[0] = ((a, b), [])
  path : ∀ k (h : k < L.length), Path T U a b L[k].2 L[k].1
  mono : ∀ j j' (h : j ≤ j') (h' : j' < L.length), L[j].2.length ≤ L[j'].2.length
  top : ∀ j (hj : j < L.length) (hi : i < L.length), L[j].2.length ≤ L[i].2.length + 1
  done : ∀ j (hj : j < L.length), j < i → ∀ e : Int, 0 ≤ e → e < T.ev → diffR (T.at L[j].1.1 e) (U.at L[j].1.2 e) = false ∧ (0 ≤ (T.at L[j].1.1 e).1 → ∃ (j' : Nat) (h' : j' < L.length), L[j'].1 = ((T.at L[j].1.1 e).1, (U.at L[j].1.2 e).1) ∧ L[j'].2.length ≤ L[j].2.length + 1)
theorem Bf.find {T U : Tb} {a b : Int} {i : Nat} {L : List Vis} (h : Bf T U a b i L) : ∀ (m j : Nat) (hj : j < L.length), Near T U m L[j].1.1 L[j].1.2 → ∃ (k : Nat) (hk : k < L.length) (n : Nat), i ≤ k ∧ 1 ≤ n ∧ L[k].2.length + n ≤ L[j].2.length + m
  | 0, j, hj, hn => by cases hn
  | m + 1, j, hj, hn => by
    by_cases hji : i ≤ j
    · exact ⟨j, hj, m + 1, hji, by omega, Nat.le_refl _⟩
    · obtain ⟨e, h0, h1, h2⟩ := hn
      obtain ⟨hd, hnx⟩ := h.done j hj (by omega) e h0 h1
      rcases h2 with h2 | ⟨h2, h3, h4⟩
      · rw [hd] at h2; cases h2
      · obtain ⟨j', hj', e1, e2⟩ := hnx h2
        obtain ⟨k, hk, n, g1, g2, g3⟩ := h.find m j' hj' (by rw [e1]; exact h4)
        exact ⟨k, hk, n, g1, g2, by omega⟩
theorem dfF_short {T U : Tb} (hT : VT T) (hU : VT U) (hev : T.ev = U.ev) {a b : Int} : ∀ (f i : Nat) (L : List Vis) (w : List Int), Bf T U a b i L → dfF T U f i L = some w → Dist T U a b w ∧ ∀ m, Near T U m a b → w.length ≤ m
  | 0, i, L, w, _, h => by simp [dfF] at h
  | f + 1, i, L, w, hB, h => by
    by_cases hlt : i < L.length
    · have hrg := hB.ok.rng i hlt
      have hget : ∀ (k : Nat) (hk : k < (rowsAt T U L[i].1).length), (k : Int) < T.ev ∧ (rowsAt T U L[i].1)[k] = (T.at L[i].1.1 k, U.at L[i].1.2 k) := fun k hk => rowsAt_get hT hU hev (a := L[i].1.1) (b := L[i].1.2) ⟨hrg.1, hrg.2.1⟩ ⟨hrg.2.2.1, hrg.2.2.2⟩ k hk
      obtain ⟨hs1, hs2⟩ := dfRow_shape L[i].2 (rowsAt T U L[i].1) 0 L
      unfold dfF at h
      rw [if_pos hlt, List.getD_eq_getElem?_getD, List.getElem?_eq_getElem hlt] at h
      simp only [Option.getD_some] at h
      cases hR : dfRow L[i].2 0 (rowsAt T U L[i].1) L with
      | inl w' =>
        rw [hR] at h
        have hw : w' = w := by simpa using h
        subst hw
        obtain ⟨k, hk, e1, e2⟩ := hs1 _ hR
        obtain ⟨h1, h2⟩ := hget k hk
        rw [h2] at e2
        rw [Nat.zero_add] at e1
        subst e1
        refine ⟨Path.dist (by omega) h1 e2 _ _ _ (hB.path i hlt), fun m hm => ?_⟩
        obtain ⟨h0, hr⟩ := hB.root
        obtain ⟨k', hk', n, g1, g2, g3⟩ := hB.find m 0 h0 (by rw [hr]; exact hm)
        have := hB.mono i k' g1 hk'
        rw [hr] at g3
        simp at g3 ⊢
        omega
      | inr L' =>
        rw [hR] at h
        obtain ⟨r, e1, e2⟩ := hs2 _ hR
        obtain ⟨_, hc2, _⟩ := dfRow_inr _ _ _ _ _ hR
        obtain ⟨_, hr2⟩ := rowsAt_mem hT hU hev (a := L[i].1.1) (b := L[i].1.2) ⟨hrg.1, hrg.2.1⟩ ⟨hrg.2.2.1, hrg.2.2.2⟩
        have hO' := dfRow_ok (T := T) (U := U) _ _ _ _ (fun p hp => by
          obtain ⟨k, hk, rfl⟩ := List.getElem_of_mem hp
          obtain ⟨h1, h2⟩ := hget k hk
          rw [h2]
          exact ⟨(hT.atOk hrg.1 hrg.2.1 (by omega) h1).2.1, (hU.atOk hrg.2.2.1 hrg.2.2.2 (by omega) (by omega)).2.1⟩) hB.ok (by have := hB.ok.len i hlt; omega) hR
        subst e1
        have hrl : ∀ j (hj : j < (L ++ r).length), L.length ≤ j → (L ++ r)[j].2.length = L[i].2.length + 1 := fun j hj hl => by
          rw [List.getElem_append_right hl]
          obtain ⟨k, hk, g1, _⟩ := e2 _ (List.getElem_mem (by simp at hj; omega : j - L.length < r.length))
          rw [g1]; simp
        have hall : ∀ j (hj : j < (L ++ r).length), (L ++ r)[j].2.length ≤ L[i].2.length + 1 := fun j hj => by
          by_cases hl : j < L.length
          · rw [List.getElem_append_left hl]; exact hB.top j hl hlt
          · rw [hrl j hj (by omega)]; exact Nat.le_refl _
        have hmono : ∀ j j' (h : j ≤ j') (h' : j' < (L ++ r).length), (L ++ r)[j].2.length ≤ (L ++ r)[j'].2.length := fun j j' hjj h' => by
          by_cases hl : j' < L.length
          · rw [List.getElem_append_left hl, List.getElem_append_left (by omega : j < L.length)]; exact hB.mono j j' hjj hl
          · rw [hrl j' h' (by omega)]; exact hall j (by omega)
        refine dfF_short hT hU hev f (i + 1) (L ++ r) w ⟨hO', ?_, fun k hk => ?_, hmono, fun j hj hi => ?_, fun j hj hji e h0 h1 => ?_⟩ h
        · obtain ⟨h0, hr⟩ := hB.root
          exact ⟨by simp; omega, by rw [List.getElem_append_left h0]; exact hr⟩
        · by_cases hl : k < L.length
          · rw [List.getElem_append_left hl]; exact hB.path k hl
          · rw [List.getElem_append_right (by omega)]
            obtain ⟨k', hk', g1, g2, g3⟩ := e2 _ (List.getElem_mem (by simp at hk; omega : k - L.length < r.length))
            obtain ⟨h1, h2⟩ := hget k' hk'
            rw [h2] at g1 g2 g3
            rw [g1, Nat.zero_add]
            exact Path.snoc (p := L[i].1) (by omega) h1 g3 g2 _ _ _ (hB.path i hlt)
        · have h1 := hall j hj
          have h2 := hmono i (i + 1) (by omega) hi
          rw [List.getElem_append_left hlt] at h2
          omega
        · by_cases hke : j < i
          · have hkl : j < L.length := by omega
            rw [List.getElem_append_left hkl]
            obtain ⟨g1, g2⟩ := hB.done j hkl hke e h0 h1
            refine ⟨g1, fun hn => ?_⟩
            obtain ⟨j', hj', g3, g4⟩ := g2 hn
            exact ⟨j', by simp; omega, by rw [List.getElem_append_left hj']; exact g3, by rw [List.getElem_append_left hj']; exact g4⟩
          · obtain rfl : j = i := by omega
            rw [List.getElem_append_left hlt]
            have := hc2 _ (hr2 e h0 h1)
            refine ⟨this.1, fun hn => ?_⟩
            obtain ⟨x, hx, g3⟩ := List.mem_map.mp (this.2 hn)
            obtain ⟨j', hj', rfl⟩ := List.getElem_of_mem hx
            exact ⟨j', hj', g3, hall j' hj'⟩
    · rw [dfF_more _ _ _ _ _ (by omega)] at h; cases h
theorem differT_short {T U : Tb} (hT : VT T) (hU : VT U) (hev : T.ev = U.ev) {a b : Int} (ha : 0 ≤ a ∧ a < T.st) (hb : 0 ≤ b ∧ b < U.st) (w : List Int) (h : differT T U a b = some w) : Dist T U a b w ∧ ∀ m, Near T U m a b → w.length ≤ m := by
  refine dfF_short hT hU hev 1000 0 _ w ⟨DvOk.start ha hb, ⟨by simp, rfl⟩, fun k hk => ?_, fun j j' hjj h' => ?_, fun j hj hi => ?_, fun j hj hji => by omega⟩ h
  · obtain rfl : k = 0 := by simp at hk; omega
    rfl
  · obtain rfl : j' = 0 := by simp at h'; omega
    obtain rfl : j = 0 := by omega
    exact Nat.le_refl _
  · obtain rfl : j = 0 := by simp at hj; omega
    simp
end Go.Proofs.Ytnggimkkjdipmaa
namespace Go.Proofs.Ytnggimkkjdipmaa
open Go.RowKit
set_option linter.unusedVariables false
set_option linter.unusedSimpArgs false
/-! ### How long a shortest word is: both tables as one, and its classes -/
theorem diffR_false {x y : Int × Int} : diffR x y = false ↔ (x.1 < 0 ↔ y.1 < 0) ∧ x.2 = y.2 := by
  unfold diffR
  simp only [Bool.or_eq_false_iff, bne_eq_false_iff_eq, decide_eq_decide]
/-- A machine, as a map: n states, ev events. -/
structure Mach where
  n : Nat
  ev : Int
  at_ : Int → Int → Int × Int
  rng : ∀ s e : Int, 0 ≤ s → s < n → 0 ≤ e → e < ev → (at_ s e).1 < n
/-- Not told apart by so many events. -/
def Mach.Eq (C : Mach) : Nat → Int → Int → Prop
  | 0, _, _ => True
  | m + 1, s, t => ∀ e : Int, 0 ≤ e → e < C.ev → diffR (C.at_ s e) (C.at_ t e) = false ∧ (0 ≤ (C.at_ s e).1 → C.Eq m (C.at_ s e).1 (C.at_ t e).1)
theorem Mach.Eq.refl (C : Mach) : ∀ (m : Nat) (s : Int), C.Eq m s s
  | 0, s => trivial
  | m + 1, s => fun e h0 h1 => ⟨diffR_false.mpr ⟨Iff.rfl, rfl⟩, fun _ => Mach.Eq.refl C m _⟩
theorem Mach.Eq.symm (C : Mach) : ∀ (m : Nat) (s t : Int), C.Eq m s t → C.Eq m t s
  | 0, _, _, _ => trivial
  | m + 1, s, t, h => fun e h0 h1 => by
    obtain ⟨h2, h3⟩ := h e h0 h1
    have h4 := diffR_false.mp h2
    exact ⟨diffR_false.mpr ⟨h4.1.symm, h4.2.symm⟩, fun hn => Mach.Eq.symm C m _ _ (h3 (by have := h4.1; omega))⟩
theorem Mach.Eq.trans (C : Mach) : ∀ (m : Nat) (s t u : Int), C.Eq m s t → C.Eq m t u → C.Eq m s u
  | 0, _, _, _, _, _ => trivial
  | m + 1, s, t, u, h, k => fun e h0 h1 => by
    obtain ⟨h2, h3⟩ := h e h0 h1
    obtain ⟨k2, k3⟩ := k e h0 h1
    have h4 := diffR_false.mp h2
    have k4 := diffR_false.mp k2
    exact ⟨diffR_false.mpr ⟨h4.1.trans k4.1, h4.2.trans k4.2⟩, fun hn => Mach.Eq.trans C m _ _ _ (h3 hn) (k3 (by have := h4.1; omega))⟩
theorem Mach.Eq.down (C : Mach) : ∀ (m : Nat) (s t : Int), C.Eq (m + 1) s t → C.Eq m s t
  | 0, _, _, _ => trivial
  | m + 1, s, t, h => fun e h0 h1 => by
    obtain ⟨h2, h3⟩ := h e h0 h1
    exact ⟨h2, fun hn => Mach.Eq.down C m _ _ (h3 hn)⟩
theorem Mach.Eq.le (C : Mach) {m k : Nat} (hk : m ≤ k) {s t : Int} (h : C.Eq k s t) : C.Eq m s t := by
  obtain ⟨d, rfl⟩ : ∃ d, k = m + d := ⟨k - m, by omega⟩
  clear hk
  induction d with
  | zero => exact h
  | succ d ih => exact ih (Mach.Eq.down C _ _ _ h)
def Mach.In (C : Mach) (s : Int) : Prop := 0 ≤ s ∧ s < C.n
/-- Once nothing is parted, nothing is parted ever after. -/
theorem Mach.stable (C : Mach) (m : Nat) (hs : ∀ s t, C.In s → C.In t → C.Eq m s t → C.Eq (m + 1) s t) : ∀ k s t, C.In s → C.In t → C.Eq m s t → C.Eq (m + k) s t
  | 0, s, t, _, _, h => h
  | k + 1, s, t, h1, h2, h => by
    have ih := Mach.stable C m hs k
    intro e h0 h3
    obtain ⟨g1, g2⟩ := hs s t h1 h2 h e h0 h3
    have g3 := diffR_false.mp g1
    refine ⟨g1, fun hn => ?_⟩
    have r1 := C.rng s e h1.1 h1.2 h0 h3
    have r2 := C.rng t e h2.1 h2.2 h0 h3
    exact ih _ _ ⟨hn, r1⟩ ⟨by have := g3.1; omega, r2⟩ (g2 hn)
theorem countP_less {α : Type} (p q : α → Bool) : ∀ (l : List α) (x : α), (∀ y ∈ l, q y = true → p y = true) → x ∈ l → p x = true → q x = false → l.countP q < l.countP p
  | y :: l, x, h, hx, hp, hq => by
    rw [List.countP_cons, List.countP_cons]
    have hle : l.countP q ≤ l.countP p := List.countP_mono_left (fun z hz hqz => h z (by simp [hz]) hqz)
    rcases List.mem_cons.mp hx with rfl | hx
    · simp [hp, hq]; omega
    · have := countP_less p q l x (fun z hz => h z (by simp [hz])) hx hp hq
      by_cases hqy : q y = true
      · simp [hqy, h y (by simp) hqy]; omega
      · simp [hqy]; omega
section
open Classical
/-- The states that stand first in their class. -/
noncomputable def Mach.rep (C : Mach) (m : Nat) (s : Nat) : Bool := decide (∀ t : Nat, t < s → ¬ C.Eq m t s)
noncomputable def Mach.num (C : Mach) (m : Nat) : Nat := (List.range C.n).countP (C.rep m)
theorem Mach.rep_up (C : Mach) (m s : Nat) (h : C.rep m s = true) : C.rep (m + 1) s = true := by
  unfold Mach.rep at h ⊢
  simp only [decide_eq_true_eq] at h ⊢
  exact fun t ht he => h t ht (Mach.Eq.down C _ _ _ he)
theorem Mach.has_rep (C : Mach) (m : Nat) : ∀ s : Nat, s < C.n → ∃ r : Nat, r ≤ s ∧ C.rep m r = true ∧ C.Eq m r s := by
  intro s
  induction s using Nat.strongRecOn with
  | _ s ih =>
    intro hs
    by_cases h : ∀ t : Nat, t < s → ¬ C.Eq m t s
    · exact ⟨s, Nat.le_refl _, by unfold Mach.rep; simpa using h, Mach.Eq.refl C m s⟩
    · have h' : ∃ t : Nat, t < s ∧ C.Eq m t s := Classical.byContradiction fun hc => h fun t ht he => hc ⟨t, ht, he⟩
      obtain ⟨t, ht, he⟩ := h'
      obtain ⟨r, h1, h2, h3⟩ := ih t ht (by omega)
      exact ⟨r, by omega, h2, Mach.Eq.trans C m _ _ _ h3 he⟩
theorem Mach.more (C : Mach) (m : Nat) (h : ¬ ∀ s t, C.In s → C.In t → C.Eq m s t → C.Eq (m + 1) s t) : C.num m < C.num (m + 1) := by
  by_cases hx : ∃ r : Nat, r < C.n ∧ C.rep (m + 1) r = true ∧ C.rep m r = false
  · obtain ⟨r, h1, h2, h3⟩ := hx
    exact countP_less _ _ _ r (fun y _ hy => C.rep_up m y hy) (List.mem_range.mpr h1) h2 h3
  · refine absurd (fun s t hs ht he => ?_) h
    obtain ⟨s', rfl⟩ : ∃ k : Nat, s = k := ⟨s.toNat, by have := hs.1; omega⟩
    obtain ⟨t', rfl⟩ : ∃ k : Nat, t = k := ⟨t.toNat, by have := ht.1; omega⟩
    have hsn : s' < C.n := by have := hs.2; omega
    have htn : t' < C.n := by have := ht.2; omega
    have key : ∀ r : Nat, r < C.n → C.rep (m + 1) r = true → C.rep m r = true := fun r hr h2 => by
      cases h3 : C.rep m r with
      | true => rfl
      | false => exact absurd ⟨r, hr, h2, h3⟩ hx
    obtain ⟨r, h1, h2, h3⟩ := C.has_rep (m + 1) s' hsn
    obtain ⟨r', g1, g2, g3⟩ := C.has_rep (m + 1) t' htn
    have h4 := key r (by omega) h2
    have g4 := key r' (by omega) g2
    have hrr : C.Eq m r r' := Mach.Eq.trans C m _ _ _ (Mach.Eq.down C _ _ _ h3) (Mach.Eq.trans C m _ _ _ he (Mach.Eq.symm C m _ _ (Mach.Eq.down C _ _ _ g3)))
    have heq : r = r' := by
      unfold Mach.rep at h4 g4
      simp only [decide_eq_true_eq] at h4 g4
      by_cases hlt : r < r'
      · exact absurd hrr (g4 r hlt)
      · by_cases hgt : r' < r
        · exact absurd (Mach.Eq.symm C m _ _ hrr) (h4 r' hgt)
        · omega
    subst heq
    exact Mach.Eq.trans C _ _ _ _ (Mach.Eq.symm C _ _ _ h3) g3
theorem Mach.settles (C : Mach) : ∃ m, m ≤ C.n ∧ ∀ s t, C.In s → C.In t → C.Eq m s t → C.Eq (m + 1) s t := by
  refine Classical.byContradiction fun hc => ?_
  have hm : ∀ m, m ≤ C.n → C.num m < C.num (m + 1) := fun m hm => C.more m fun h => hc ⟨m, hm, h⟩
  have hle : ∀ m, m ≤ C.n + 1 → m ≤ C.num m := by
    intro m
    induction m with
    | zero => intro _; omega
    | succ m ih => intro h; have := hm m (by omega); have := ih (by omega); omega
  have h1 := hle (C.n + 1) (Nat.le_refl _)
  have h2 : C.num (C.n + 1) ≤ C.n := by
    have := List.countP_le_length (p := C.rep (C.n + 1)) (l := List.range C.n)
    simpa [Mach.num] using this
  omega
end
/-- What so many events as there are states do not tell apart nothing does. -/
theorem Mach.bound (C : Mach) {s t : Int} (hs : C.In s) (ht : C.In t) (h : C.Eq C.n s t) (k : Nat) : C.Eq k s t := by
  obtain ⟨m, hm, hst⟩ := C.settles
  have h1 := Mach.Eq.le C hm h
  have h2 := C.stable m hst k s t hs ht h1
  exact Mach.Eq.le C (by omega) h2
/-- Both tables as one. -/
def shiftR (n : Int) (r : Int × Int) : Int × Int := if r.1 < 0 then r else (r.1 + n, r.2)
theorem shift_diff (n : Int) (hn : 0 ≤ n) (x y : Int × Int) : diffR x (shiftR n y) = diffR x y := by
  have key : diffR x (shiftR n y) = false ↔ diffR x y = false := by
    rw [diffR_false, diffR_false]
    unfold shiftR
    split <;> (try dsimp only) <;> omega
  cases h1 : diffR x (shiftR n y) <;> cases h2 : diffR x y <;> simp_all
def both (T U : Tb) (hT : VT T) (hU : VT U) (hev : T.ev = U.ev) : Mach where
  n := (T.st + U.st).toNat
  ev := T.ev
  at_ := fun s e => if s < T.st then T.at s e else shiftR T.st (U.at (s - T.st) e)
  rng := fun s e h0 h1 h2 h3 => by
    have hst := hT.st
    have hsu := hU.st
    split
    · have := hT.atOk h0 ‹_› h2 h3; omega
    · have := hU.atOk (s := s - T.st) (e := e) (by omega) (by omega) h2 (by omega)
      unfold shiftR
      split
      · omega
      · dsimp only; omega
theorem both_near {T U : Tb} (hT : VT T) (hU : VT U) (hev : T.ev = U.ev) : ∀ (m : Nat) (a b : Int), 0 ≤ a ∧ a < T.st → 0 ≤ b ∧ b < U.st → ((both T U hT hU hev).Eq m a (T.st + b) ↔ ¬ Near T U m a b)
  | 0, a, b, _, _ => ⟨fun _ h => h, fun _ => trivial⟩
  | m + 1, a, b, ha, hb => by
    have hst := hT.st
    have e1 : ∀ e, (both T U hT hU hev).at_ a e = T.at a e := fun e => by show (if a < T.st then _ else _) = _; rw [if_pos ha.2]
    have e2 : ∀ e, (both T U hT hU hev).at_ (T.st + b) e = shiftR T.st (U.at b e) := fun e => by
      show (if T.st + b < T.st then _ else _) = _
      rw [if_neg (by omega), show T.st + b - T.st = b by omega]
    constructor
    · rintro h ⟨e, h0, h1, h2⟩
      obtain ⟨g1, g2⟩ := h e h0 h1
      rw [e1, e2, shift_diff _ (by omega)] at g1
      rcases h2 with h2 | ⟨h2, h3, h4⟩
      · rw [g1] at h2; cases h2
      · rw [e1, e2] at g2
        have g3 := g2 h2
        have r1 := hT.atOk ha.1 ha.2 h0 h1
        have r2 := hU.atOk hb.1 hb.2 h0 (by omega)
        have e3 : (shiftR T.st (U.at b e)).1 = T.st + (U.at b e).1 := by unfold shiftR; rw [if_neg (by omega)]; dsimp only; omega
        rw [e3] at g3
        exact (both_near hT hU hev m _ _ ⟨h2, r1.2.1⟩ ⟨h3, r2.2.1⟩).mp g3 h4
    · intro h e h0 h1
      have r1 := hT.atOk ha.1 ha.2 h0 h1
      have r2 := hU.atOk hb.1 hb.2 h0 (by have : e < T.ev := h1; omega)
      rw [e1, e2, shift_diff _ (by omega)]
      have g1 : diffR (T.at a e) (U.at b e) = false := by
        cases hd : diffR (T.at a e) (U.at b e) with
        | false => rfl
        | true => exact absurd ⟨e, h0, h1, .inl hd⟩ h
      refine ⟨g1, fun hn => ?_⟩
      have g2 := (diffR_false.mp g1).1
      have e3 : (shiftR T.st (U.at b e)).1 = T.st + (U.at b e).1 := by unfold shiftR; rw [if_neg (by omega)]; dsimp only; omega
      rw [e3]
      exact (both_near hT hU hev m _ _ ⟨hn, r1.2.1⟩ ⟨by omega, r2.2.1⟩).mpr fun hc => h ⟨e, h0, h1, .inr ⟨hn, by omega, hc⟩⟩
theorem near_bound {T U : Tb} (hT : VT T) (hU : VT U) (hev : T.ev = U.ev) {a b : Int} (ha : 0 ≤ a ∧ a < T.st) (hb : 0 ≤ b ∧ b < U.st) {k : Nat} (h : Near T U k a b) : Near T U 60 a b := by
  refine Classical.byContradiction fun hc => ?_
  have hst := hT.st
  have hsu := hU.st
  have h1 := (both_near hT hU hev 60 a b ha hb).mpr hc
  have hn : (both T U hT hU hev).n = (T.st + U.st).toNat := rfl
  have h2 := Mach.Eq.le (both T U hT hU hev) (m := (both T U hT hU hev).n) (by rw [hn]; omega) h1
  have h3 := Mach.bound (both T U hT hU hev) (s := a) (t := T.st + b) ⟨ha.1, by rw [hn]; omega⟩ ⟨by omega, by rw [hn]; omega⟩ h2 k
  exact (both_near hT hU hev k a b ha hb).mp h3 h
theorem differT_words {T U : Tb} (hT : VT T) (hU : VT U) (hev : T.ev = U.ev) {a b : Int} (ha : 0 ≤ a ∧ a < T.st) (hb : 0 ≤ b ∧ b < U.st) (w : List Int) (h : differT T U a b = some w) : Dist T U a b w ∧ w.length ≤ 60 := by
  obtain ⟨h1, h2⟩ := differT_short hT hU hev ha hb w h
  obtain ⟨k, hk⟩ := near_of_ap ((differT_law hT hU hev ha hb).mp (by rw [h]; rfl))
  exact ⟨h1, h2 60 (near_bound hT hU hev ha hb hk)⟩
end Go.Proofs.Ytnggimkkjdipmaa
namespace Go.Proofs.Ytnggimkkjdipmaa
open Go.RowKit
set_option linter.unusedVariables false
set_option linter.unusedSimpArgs false
/-! ### What the two tables do with the word that Differ gives -/
theorem dist_run {T U : Tb} (hT : VT T) (hU : VT U) (hev : T.ev = U.ev) : ∀ (w : List Int) (a b : Int), 0 ≤ a ∧ a < T.st → 0 ≤ b ∧ b < U.st → Dist T U a b w →
    w ≠ [] ∧ (∀ e ∈ w, 0 ≤ e ∧ e < T.ev) ∧ (T.run a w.dropLast).1 = (U.run b w.dropLast).1 ∧ (T.run a w.dropLast).1.length = w.length - 1 ∧ (T.run a w).1 ≠ (U.run b w).1
  | [], a, b, _, _, h => by cases h
  | e :: w, a, b, ha, hb, h => by
    obtain ⟨h0, h1, h2⟩ := h
    have r1 := hT.atOk ha.1 ha.2 h0 h1
    have r2 := hU.atOk hb.1 hb.2 h0 (by omega)
    rcases h2 with ⟨hd, rfl⟩ | ⟨hd, hn, hD⟩
    · refine ⟨by simp, fun x hx => by simp at hx; subst hx; exact ⟨h0, h1⟩, by simp [Tb.run], by simp [Tb.run], ?_⟩
      have hne : ¬ ((((T.at a e).1 < 0) ↔ ((U.at b e).1 < 0)) ∧ (T.at a e).2 = (U.at b e).2) := fun hc => by
        have := diffR_false.mpr hc; rw [hd] at this; cases this
      by_cases hx : (T.at a e).1 < 0 <;> by_cases hy : (U.at b e).1 < 0
      · exact absurd ⟨⟨fun _ => hy, fun _ => hx⟩, by rw [r1.2.2.2.2 hx, r2.2.2.2.2 hy]⟩ hne
      · simp [Tb.run, hx, hy]
      · simp [Tb.run, hx, hy]
      · simp only [Tb.run, hx, hy, if_false]
        intro hc
        exact hne ⟨⟨fun h => absurd h hx, fun h => absurd h hy⟩, by simpa using hc⟩
    · have hs := diffR_false.mp hd
      have hx : ¬ (T.at a e).1 < 0 := by omega
      have hy : ¬ (U.at b e).1 < 0 := by have := hs.1; omega
      obtain ⟨g1, g2, g3, g4, g5⟩ := dist_run hT hU hev w _ _ ⟨hn, r1.2.1⟩ ⟨by omega, r2.2.1⟩ hD
      have hdl : (e :: w).dropLast = e :: w.dropLast := by cases w with | nil => exact absurd rfl g1 | cons _ _ => rfl
      refine ⟨by simp, fun x hx => ?_, ?_, ?_, ?_⟩
      · rcases List.mem_cons.mp hx with rfl | hx
        · exact ⟨h0, h1⟩
        · exact g2 x hx
      · rw [hdl]; simp only [Tb.run, hx, hy, if_false]; rw [g3, hs.2]
      · rw [hdl]; simp only [Tb.run, hx, if_false, List.length_cons]; rw [g4]
        have : w.length ≠ 0 := fun hc => g1 (List.length_eq_zero_iff.mp hc)
        omega
      · simp only [Tb.run, hx, hy, if_false]
        intro hc
        simp only [List.cons.injEq] at hc
        exact g5 hc.2
/-- Differ's word, if there is one. -/
theorem differF_law (T : Tb) (a : Int) (U : Tb) (b : Int) (h : (differF T a U b).2 = 0) :
    (differF T a U b).1 ≠ [] ∧ (differF T a U b).1.length ≤ 60 ∧
      (T.Run a (differF T a U b).1).2.2 = 0 ∧ (U.Run b (differF T a U b).1).2.2 = 0 ∧ (T.Run a (differF T a U b).1.dropLast).2.2 = 0 ∧ (U.Run b (differF T a U b).1.dropLast).2.2 = 0 ∧
      (T.Run a (differF T a U b).1).1 ≠ (U.Run b (differF T a U b).1).1 ∧ (T.Run a (differF T a U b).1.dropLast).1 = (U.Run b (differF T a U b).1.dropLast).1 ∧ (T.Run a (differF T a U b).1.dropLast).1.length = (differF T a U b).1.length - 1 := by
  unfold differF at h ⊢
  split at h
  · rename_i hc
    rw [if_pos hc]
    cases hd : differT T U a b with
    | none => rw [hd] at h; cases h
    | some w =>
      simp only [Bool.and_eq_true] at hc
      obtain ⟨hT, hU, hev⟩ := validTwo hc.1.1
      have h1 : 0 ≤ a ∧ a < T.st := by have := hc.1.2; simpa [Tb.has] using this
      have h2 : 0 ≤ b ∧ b < U.st := by have := hc.2; simpa [Tb.has] using this
      obtain ⟨hD, hl⟩ := differT_words hT hU hev h1 h2 w hd
      obtain ⟨g1, g2, g3, g4, g5⟩ := dist_run hT hU hev w a b h1 h2 hD
      dsimp only
      have wd : ∀ l : List Int, (∀ e ∈ l, e ∈ w) → l.length ≤ 60 → T.Run a l = ((T.run a l).1, (T.run a l).2, 0) ∧ U.Run b l = ((U.run b l).1, (U.run b l).2, 0) := fun l hs hn => by
        have w1 : T.worded l = true := by
          unfold Tb.worded
          rw [Bool.and_eq_true]
          exact ⟨decide_eq_true (by omega), List.all_eq_true.mpr fun e he => by have := g2 e (hs e he); simp; exact this⟩
        have w2 : U.worded l = true := by
          unfold Tb.worded
          rw [Bool.and_eq_true]
          exact ⟨decide_eq_true (by omega), List.all_eq_true.mpr fun e he => by have := g2 e (hs e he); simp; omega⟩
        have v1 := (validT_iff T).mpr hT
        have v2 := (validT_iff U).mpr hU
        unfold Tb.Run
        rw [if_pos (by rw [v1, hc.1.2, w1]; rfl), if_pos (by rw [v2, hc.2, w2]; rfl)]
        exact ⟨rfl, rfl⟩
      obtain ⟨e1, e2⟩ := wd w (fun e he => he) hl
      obtain ⟨e3, e4⟩ := wd w.dropLast (fun e he => List.dropLast_subset _ he) (by rw [List.length_dropLast]; omega)
      rw [e1, e2, e3, e4]
      exact ⟨g1, hl, rfl, rfl, rfl, rfl, g5, g3, g4⟩
  · cases h
end Go.Proofs.Ytnggimkkjdipmaa
namespace Go.Proofs.Ytnggimkkjdipmaa
open Go.RowKit
set_option linter.unusedVariables false
set_option linter.unusedSimpArgs false
/-! ### The classes: states of one class tell the same, states of two do not -/
theorem byteI_toNat (n : Int) : ((byteI n).toNat : Int) = n % 256 := by
  unfold byteI
  rw [UInt8.toNat_ofNat']
  omega
theorem keyB_inj : ∀ (l l' : List Int), (∀ x ∈ l, -1 ≤ x ∧ x ≤ 1000) → (∀ x ∈ l', -1 ≤ x ∧ x ≤ 1000) → keyB l = keyB l' → l = l'
  | [], [], _, _, _ => rfl
  | [], y :: l', _, _, h => by simp [keyB] at h
  | x :: l, [], _, _, h => by simp [keyB] at h
  | x :: l, y :: l', hl, hl', h => by
    have e1 : keyB (x :: l) = [byteI ((x + 1) / 256), byteI (x + 1)] ++ keyB l := rfl
    have e2 : keyB (y :: l') = [byteI ((y + 1) / 256), byteI (y + 1)] ++ keyB l' := rfl
    rw [e1, e2] at h
    simp only [List.cons_append, List.nil_append, List.cons.injEq] at h
    obtain ⟨h1, h2, h3⟩ := h
    have g1 := congrArg (fun b : UInt8 => (b.toNat : Int)) h1
    have g2 := congrArg (fun b : UInt8 => (b.toNat : Int)) h2
    simp only [byteI_toNat] at g1 g2
    have hx := hl x (by simp)
    have hy := hl' y (by simp)
    have hxy : x = y := by omega
    rw [hxy, keyB_inj l l' (fun z hz => hl z (by simp [hz])) (fun z hz => hl' z (by simp [hz])) h3]
theorem flat2_inj {α : Type} (f g : α → List Int) (hf : ∀ x, (f x).length = 2) (hg : ∀ x, (g x).length = 2) : ∀ (l l' : List α), l.length = l'.length → l.flatMap f = l'.flatMap g → ∀ i (h : i < l.length) (h' : i < l'.length), f l[i] = g l'[i]
  | [], _, _, _, i, h, _ => by simp at h
  | x :: l, [], hl, _, _, _, _ => by simp at hl
  | x :: l, y :: l', hl, h, i, hi, hi' => by
    simp only [List.flatMap_cons] at h
    have h1 := List.append_inj h (by rw [hf, hg])
    cases i with
    | zero => exact h1.1
    | succ i => exact flat2_inj f g hf hg l l' (by simpa using hl) h1.2 i (by simpa using hi) (by simpa using hi')
theorem rowKey_len (c : List Int) (r : Int × Int) : (rowKey c r).length = 2 := by unfold rowKey; split <;> rfl
theorem rowKey_iff (c : List Int) (r r' : Int × Int) (h : 0 ≤ r.2 ∧ (r.1 < 0 → r.2 = 0)) (h' : 0 ≤ r'.2 ∧ (r'.1 < 0 → r'.2 = 0)) : rowKey c r = rowKey c r' ↔ diffR r r' = false ∧ (0 ≤ r.1 → gI c r.1 = gI c r'.1) := by
  rw [diffR_false]
  unfold rowKey
  by_cases h1 : r.1 < 0 <;> by_cases h2 : r'.1 < 0
  · rw [if_pos h1, if_pos h2, h.2 h1, h'.2 h2]
    exact ⟨fun _ => ⟨⟨⟨fun _ => h2, fun _ => h1⟩, rfl⟩, fun h3 => by omega⟩, fun _ => rfl⟩
  · rw [if_pos h1, if_neg h2]
    constructor
    · intro h3; simp at h3; omega
    · intro h3; have := h3.1.1; omega
  · rw [if_neg h1, if_pos h2]
    constructor
    · intro h3; simp at h3; omega
    · intro h3; have := h3.1.1; omega
  · rw [if_neg h1, if_neg h2]
    constructor
    · intro h3
      simp only [List.cons.injEq, and_true] at h3
      exact ⟨⟨⟨fun h => absurd h h1, fun h => absurd h h2⟩, h3.1⟩, fun _ => h3.2⟩
    · rintro ⟨⟨_, h4⟩, h5⟩
      rw [h4, h5 (by omega)]
/-- A list of classes is good for a table: its numbers are small. -/
theorem gI_rng {T : Tb} (hT : VT T) {c : List Int} {n : Nat} (h : ClOk T c n) {s : Int} (h0 : 0 ≤ s) (h1 : s < T.st) : 0 ≤ gI c s ∧ gI c s < n := by
  have hl := hT.len h0 h1
  have hc : s.toNat < c.length := by rw [h.len]; exact hl
  unfold gI
  rw [List.getD_eq_getElem?_getD, List.getElem?_eq_getElem hc]
  exact h.rng _ (List.getElem_mem hc)
theorem key_iff {T : Tb} (hT : VT T) {c : List Int} {n : Nat} (h : ClOk T c n) {s t : Int} (hs : 0 ≤ s ∧ s < T.st) (ht : 0 ≤ t ∧ t < T.st) :
    ∃ (h1 : s.toNat < (keysT T c).length) (h2 : t.toNat < (keysT T c).length), ((keysT T c)[s.toNat] = (keysT T c)[t.toNat] ↔ gI c s = gI c t ∧ ∀ e : Int, 0 ≤ e → e < T.ev → diffR (T.at s e) (T.at t e) = false ∧ (0 ≤ (T.at s e).1 → gI c (T.at s e).1 = gI c (T.at t e).1)) := by
  have h30 := hT.le30
  have ls := hT.len hs.1 hs.2
  have lt := hT.len ht.1 ht.2
  have hk : (keysT T c).length = T.rows.length := keysFrom_len c 0 T.rows
  obtain ⟨_, e1⟩ := keysFrom_get c T.rows 0 s.toNat ls
  obtain ⟨_, e2⟩ := keysFrom_get c T.rows 0 t.toNat lt
  have rs := hT.row _ (List.getElem_mem ls)
  have rt := hT.row _ (List.getElem_mem lt)
  have hle := h.le
  have bnd : ∀ (x : Int) (hx : 0 ≤ x ∧ x < T.st), ∀ y ∈ keyL c (0 + x.toNat) T.rows[x.toNat]!, -1 ≤ y ∧ y ≤ 1000 := fun x hx y hy => by
    have lx := hT.len hx.1 hx.2
    have e0 : T.rows[x.toNat]! = T.rows[x.toNat] := by simp [lx]
    rw [e0] at hy
    unfold keyL at hy
    rcases List.mem_cons.mp hy with rfl | hy
    · have := gI_rng hT h hx.1 hx.2
      rw [Nat.zero_add, Int.toNat_of_nonneg hx.1]; omega
    · obtain ⟨r, hr, hy⟩ := List.mem_flatMap.mp hy
      have hc := hT.cell _ (List.getElem_mem lx) r hr
      unfold rowKey at hy
      split at hy
      · simp at hy; omega
      · simp at hy
        rcases hy with rfl | rfl
        · omega
        · have := gI_rng hT h (s := r.1) (by omega) hc.2.1; omega
  refine ⟨by rw [hk]; exact ls, by rw [hk]; exact lt, ?_⟩
  have e1' : (keysT T c)[s.toNat]'(by rw [hk]; exact ls) = keyB (keyL c (0 + s.toNat) T.rows[s.toNat]) := e1
  have e2' : (keysT T c)[t.toNat]'(by rw [hk]; exact lt) = keyB (keyL c (0 + t.toNat) T.rows[t.toNat]) := e2
  rw [e1', e2']
  have hrow : ∀ e : Int, 0 ≤ e → e < T.ev → ∃ (g1 : e.toNat < T.rows[s.toNat].length) (g2 : e.toNat < T.rows[t.toNat].length), T.at s e = T.rows[s.toNat][e.toNat] ∧ T.at t e = T.rows[t.toNat][e.toNat] := fun e h0 h1 => by
    obtain ⟨_, g1, g2⟩ := hT.get hs.1 hs.2 h0 h1
    obtain ⟨_, g3, g4⟩ := hT.get ht.1 ht.2 h0 h1
    exact ⟨g1, g3, g2, g4⟩
  have hv : ∀ (x e : Int), 0 ≤ x ∧ x < T.st → 0 ≤ e → e < T.ev → 0 ≤ (T.at x e).2 ∧ ((T.at x e).1 < 0 → (T.at x e).2 = 0) := fun x e hx h0 h1 => by
    have := hT.atOk hx.1 hx.2 h0 h1
    exact ⟨this.2.2.1, this.2.2.2.2⟩
  constructor
  · intro hkk
    have b1 := bnd s hs
    have b2 := bnd t ht
    simp only [ls, lt, getElem!_pos] at b1 b2
    have hl := keyB_inj _ _ b1 b2 hkk
    unfold keyL at hl
    simp only [List.cons.injEq, Nat.zero_add, Int.toNat_of_nonneg hs.1, Int.toNat_of_nonneg ht.1] at hl
    refine ⟨hl.1, fun e h0 h1 => ?_⟩
    obtain ⟨g1, g2, g3, g4⟩ := hrow e h0 h1
    have := flat2_inj _ _ (rowKey_len c) (rowKey_len c) _ _ (by omega) hl.2 e.toNat g1 g2
    rw [← g3, ← g4] at this
    exact (rowKey_iff c _ _ (hv s e hs h0 h1) (hv t e ht h0 h1)).mp this
  · rintro ⟨hc, hr⟩
    congr 1
    unfold keyL
    rw [Nat.zero_add, Nat.zero_add, Int.toNat_of_nonneg hs.1, Int.toNat_of_nonneg ht.1, hc]
    congr 1
    have hmap : T.rows[s.toNat].map (rowKey c) = T.rows[t.toNat].map (rowKey c) := by
      apply List.ext_getElem
      · simp; omega
      · intro i h1 h2
        simp at h1 h2
        have := (rowKey_iff c _ _ (hv s (i : Int) hs (by omega) (by omega)) (hv t (i : Int) ht (by omega) (by omega))).mpr (hr (i : Int) (by omega) (by omega))
        obtain ⟨g1, g2, g3, g4⟩ := hrow (i : Int) (by omega) (by omega)
        rw [g3, g4] at this
        simpa using this
    rw [List.flatMap_def, List.flatMap_def, hmap]
theorem num_iff {T : Tb} (hT : VT T) {c : List Int} {s t : Int} (hs : 0 ≤ s ∧ s < T.st) (ht : 0 ≤ t ∧ t < T.st) (h1 : s.toNat < (keysT T c).length) (h2 : t.toNat < (keysT T c).length) : gI (roundC T c).1 s = gI (roundC T c).1 t ↔ (keysT T c)[s.toNat] = (keysT T c)[t.toNat] := by
  obtain ⟨g1, e1⟩ := numG_get (keysT T c) [] s.toNat h1 List.nodup_nil
  obtain ⟨g2, e2⟩ := numG_get (keysT T c) [] t.toNat h2 List.nodup_nil
  have key : ∀ (x : Int) (hx : 0 ≤ x) (h : x.toNat < (numG [] (keysT T c)).1.length), gI (roundC T c).1 x = ((numG [] (keysT T c)).1[x.toNat] : Int) := fun x hx h => by
    show gI (toI _) x = _
    unfold gI toI
    rw [List.getD_eq_getElem?_getD, List.getElem?_eq_getElem (by simpa using h)]
    simp
  rw [key s hs.1 g1, key t ht.1 g2, e1, e2]
  constructor
  · intro h
    exact idxOf_inj (numG [] (keysT T c)).2 _ _ ((numG_mem _ _ _).mpr (.inr (List.getElem_mem h1))) (by omega)
  · intro h; rw [h]
/-- Classes apart: some word tells. -/
def SepC (T : Tb) (c : List Int) : Prop := ∀ s t : Int, 0 ≤ s ∧ s < T.st → 0 ≤ t ∧ t < T.st → gI c s ≠ gI c t → Ap T T s t
theorem SepC.round {T : Tb} (hT : VT T) {c : List Int} {n : Nat} (h : ClOk T c n) (hS : SepC T c) : SepC T (roundC T c).1 := by
  intro s t hs ht hne
  obtain ⟨h1, h2, hk⟩ := key_iff hT h hs ht
  have hkn : ¬ ((keysT T c)[s.toNat] = (keysT T c)[t.toNat]) := fun he => hne ((num_iff hT hs ht h1 h2).mpr he)
  by_cases hc : gI c s = gI c t
  · have : ¬ ∀ e : Int, 0 ≤ e → e < T.ev → diffR (T.at s e) (T.at t e) = false ∧ (0 ≤ (T.at s e).1 → gI c (T.at s e).1 = gI c (T.at t e).1) := fun hx => hkn (hk.mpr ⟨hc, hx⟩)
    refine Classical.byContradiction fun hna => this fun e h0 h3 => ?_
    have r1 := hT.atOk hs.1 hs.2 h0 h3
    have r2 := hT.atOk ht.1 ht.2 h0 h3
    cases hd : diffR (T.at s e) (T.at t e) with
    | true => exact absurd (Ap.here h0 h3 hd) hna
    | false =>
      refine ⟨rfl, fun hn => Classical.byContradiction fun hcn => hna ?_⟩
      have hsg := (diffR_false.mp hd).1
      exact Ap.next h0 h3 hn (by omega) (hS _ _ ⟨hn, r1.2.1⟩ ⟨by omega, r2.2.1⟩ hcn)
  · exact hS s t hs ht hc
/-- A map that keeps a list without doubles' count keeps its members apart. -/
theorem inj_of_count {κ μ : Type} [DecidableEq κ] [DecidableEq μ] (ks : List κ) (f : κ → μ) (h : (numG [] (ks.map f)).2.length = (numG [] ks).2.length) : ∀ a ∈ ks, ∀ b ∈ ks, f a = f b → a = b := by
  intro a ha b hb hf
  refine Classical.byContradiction fun hne => ?_
  have ha' : a ∈ (numG [] ks).2 := (numG_mem ks [] a).mpr (.inr ha)
  have hb' : b ∈ (numG [] ks).2 := (numG_mem ks [] b).mpr (.inr hb)
  have hnd := numG_nodup ks [] List.nodup_nil
  have hd2 := numG_nodup (ks.map f) [] List.nodup_nil
  have hb2 : b ∈ ((numG [] ks).2.erase a) := (List.mem_erase_of_ne (fun e => hne e.symm)).mpr hb'
  have := pigeon (numG [] (ks.map f)).2 (((numG [] ks).2.erase a).map f) hd2 (fun x hx => by
    rcases (numG_mem _ _ _).mp hx with h1 | h1
    · simp at h1
    · obtain ⟨y, hy, rfl⟩ := List.mem_map.mp h1
      by_cases hya : y = a
      · subst hya; rw [hf]; exact List.mem_map.mpr ⟨b, hb2, rfl⟩
      · exact List.mem_map.mpr ⟨y, (List.mem_erase_of_ne hya).mpr ((numG_mem ks [] y).mpr (.inr hy)), rfl⟩)
  rw [List.length_map, List.length_erase_of_mem ha'] at this
  have hpos : 0 < (numG [] ks).2.length := List.length_pos_of_mem ha'
  omega
structure Bis (T : Tb) (c : List Int) : Prop where
  same : ∀ s t : Int, 0 ≤ s ∧ s < T.st → 0 ≤ t ∧ t < T.st → gI c s = gI c t → ∀ e : Int, 0 ≤ e → e < T.ev → diffR (T.at s e) (T.at t e) = false ∧ (0 ≤ (T.at s e).1 → gI c (T.at s e).1 = gI c (T.at t e).1)
  sep : SepC T c
theorem fix_bis {T : Tb} (hT : VT T) {c : List Int} {n : Nat} (h : ClOk T c n) (hS : SepC T c) (hn : (roundC T c).2 = n) : Bis T (roundC T c).1 := by
  have hinj := inj_of_count (keysT T c) headB (by rw [keys_heads h hT.le30, h.num]; exact hn.symm)
  have hcl := keys_heads h hT.le30
  have hfix : ∀ s t : Int, 0 ≤ s ∧ s < T.st → 0 ≤ t ∧ t < T.st → gI c s = gI c t → gI (roundC T c).1 s = gI (roundC T c).1 t := fun s t hs ht hc => by
    obtain ⟨h1, h2, _⟩ := key_iff hT h hs ht
    refine (num_iff hT hs ht h1 h2).mpr (hinj _ (List.getElem_mem h1) _ (List.getElem_mem h2) ?_)
    have key : ∀ (x : Int) (hx : 0 ≤ x) (h : x.toNat < (keysT T c).length), headB (keysT T c)[x.toNat] = gI c x := fun x hx h => by
      unfold gI
      conv => rhs; rw [← hcl]
      rw [List.getD_eq_getElem?_getD, List.getElem?_eq_getElem (by simpa using h)]
      simp
    rw [key s hs.1 h1, key t ht.1 h2, hc]
  refine ⟨fun s t hs ht hc e h0 h3 => ?_, hS.round hT h⟩
  obtain ⟨h1, h2, hk⟩ := key_iff hT h hs ht
  obtain ⟨_, g2⟩ := hk.mp ((num_iff hT hs ht h1 h2).mp hc)
  obtain ⟨g3, g4⟩ := g2 e h0 h3
  refine ⟨g3, fun hn => ?_⟩
  have r1 := hT.atOk hs.1 hs.2 h0 h3
  have r2 := hT.atOk ht.1 ht.2 h0 h3
  have hsg := (diffR_false.mp g3).1
  exact hfix _ _ ⟨hn, r1.2.1⟩ ⟨by omega, r2.2.1⟩ (g4 hn)
theorem classF_bis {T : Tb} (hT : VT T) : ∀ (f : Nat) (c : List Int) (n : Nat), ClOk T c n → SepC T c → 31 - n ≤ f → 1 ≤ f → Bis T (classF T f c n)
  | 0, c, n, _, _, _, h1 => by omega
  | f + 1, c, n, h, hS, hf, _ => by
    unfold classF
    split
    · rename_i hn; exact fix_bis hT h hS hn
    · rename_i hn
      obtain ⟨h1, h2⟩ := h.round hT.le30
      have := h1.le
      have := hT.le30
      exact classF_bis hT f _ _ h1 (hS.round hT h) (by omega) (by omega)
theorem classes_bis {T : Tb} (hT : VT T) : Bis T (classes T) :=
  classF_bis hT 40 _ _ (ClOk.start hT) (fun s t hs ht hne => by
    refine absurd ?_ hne
    have key : ∀ x : Int, gI (class0 T) x = 0 := fun x => by
      unfold gI class0
      rw [List.getD_eq_getElem?_getD, List.getElem?_replicate]
      split <;> rfl
    rw [key, key]) (by omega) (by omega)
end Go.Proofs.Ytnggimkkjdipmaa
namespace Go.Proofs.Ytnggimkkjdipmaa
open Go.RowKit
set_option linter.unusedVariables false
set_option linter.unusedSimpArgs false
/-! ### The walk meets all that can be reached; the least table tells the same -/
abbrev keyW (L : List (Int × List Int)) : List Int := L.map (·.1)
theorem wStep_law (word : List Int) (L : List (Int × List Int)) (e : Nat) (r : Int × Int) :
    (∃ t, wStep word L e r = L ++ t) ∧ (0 ≤ r.1 → r.1 ∈ keyW (wStep word L e r)) ∧ ∀ x ∈ keyW (wStep word L e r), x ∈ keyW L ∨ (0 ≤ r.1 ∧ x = r.1) := by
  unfold wStep
  rw [any_keys]
  split
  · rename_i h
    refine ⟨⟨_, rfl⟩, fun _ => by simp, fun x hx => ?_⟩
    simp only [keyW, List.map_append, List.mem_append, List.map_cons, List.map_nil, List.mem_singleton] at hx
    rcases hx with hx | hx
    · exact .inl hx
    · exact .inr ⟨h.1, hx⟩
  · rename_i h
    refine ⟨⟨[], by simp⟩, fun h0 => ?_, fun x hx => .inl hx⟩
    simp only [decide_eq_true_eq, not_and, Classical.not_not] at h
    exact h h0
theorem wRow_law (word : List Int) : ∀ (rs : List (Int × Int)) (e : Nat) (L : List (Int × List Int)),
    (∃ t, wRow word e rs L = L ++ t) ∧ (∀ r ∈ rs, 0 ≤ r.1 → r.1 ∈ keyW (wRow word e rs L)) ∧ ∀ x ∈ keyW (wRow word e rs L), x ∈ keyW L ∨ ∃ r ∈ rs, 0 ≤ r.1 ∧ x = r.1
  | [], e, L => ⟨⟨[], by simp [wRow]⟩, fun r hr => by simp at hr, fun x hx => .inl hx⟩
  | r :: rs, e, L => by
    rw [wRow_cons]
    obtain ⟨⟨t, h1⟩, h2, h3⟩ := wStep_law word L e r
    obtain ⟨⟨t', g1⟩, g2, g3⟩ := wRow_law word rs (e + 1) (wStep word L e r)
    refine ⟨⟨t ++ t', by rw [g1, h1, List.append_assoc]⟩, fun q hq h0 => ?_, fun x hx => ?_⟩
    · rcases List.mem_cons.mp hq with rfl | hq
      · rw [g1, keyW, List.map_append]; exact List.mem_append.mpr (.inl (h2 h0))
      · exact g2 q hq h0
    · rcases g3 x hx with h4 | ⟨q, hq, h5⟩
      · rcases h3 x h4 with h6 | h6
        · exact .inl h6
        · exact .inr ⟨r, by simp, h6⟩
      · exact .inr ⟨q, by simp [hq], h5⟩
theorem row_at {T : Tb} (hT : VT T) {s : Int} (hs : 0 ≤ s ∧ s < T.st) : (∀ r ∈ T.rows.getD s.toNat [], ∃ e : Int, 0 ≤ e ∧ e < T.ev ∧ r = T.at s e) ∧ (∀ e : Int, 0 ≤ e → e < T.ev → T.at s e ∈ T.rows.getD s.toNat []) ∧ ((T.rows.getD s.toNat []).length : Int) = T.ev := by
  have h1 := hT.len hs.1 hs.2
  have r1 := hT.row _ (List.getElem_mem h1)
  have e1 : T.rows.getD s.toNat [] = T.rows[s.toNat] := by rw [List.getD_eq_getElem?_getD, List.getElem?_eq_getElem h1]; rfl
  rw [e1]
  refine ⟨fun r hr => ?_, fun e h0 h2 => ?_, r1⟩
  · obtain ⟨j, hj, rfl⟩ := List.getElem_of_mem hr
    obtain ⟨_, _, e2⟩ := hT.get (s := s) (e := (j : Int)) hs.1 hs.2 (by omega) (by omega)
    exact ⟨(j : Int), by omega, by omega, by rw [e2]; rfl⟩
  · obtain ⟨_, he, e2⟩ := hT.get (s := s) (e := e) hs.1 hs.2 h0 h2
    rw [e2]; exact List.getElem_mem he
/-- A list of states that holds what follows. -/
def CloW (T : Tb) (S : List Int) (s : Int) : Prop := ∀ e : Int, 0 ≤ e → e < T.ev → 0 ≤ (T.at s e).1 → (T.at s e).1 ∈ S
theorem walkF_law {T : Tb} (hT : VT T) : ∀ (f i : Nat) (L : List (Int × List Int)), f + i = 40 → WOk T L → (∃ t, L = (T.sr, []) :: t) → (∀ k (h : k < L.length), k < i → CloW T (keyW L) L[k].1) →
    WOk T (walkF T f i L) ∧ (∃ t, walkF T f i L = (T.sr, []) :: t) ∧ ∀ s ∈ keyW (walkF T f i L), CloW T (keyW (walkF T f i L)) s
  | 0, i, L, hf, hO, hr, hC => by
    have hle := hO.le
    have := hT.st
    refine ⟨hO, hr, fun s hs => ?_⟩
    obtain ⟨k, hk, rfl⟩ := List.getElem_of_mem hs
    simp only [walkF, keyW, List.length_map] at hk
    have := hC k hk (by omega)
    simpa [walkF, keyW] using this
  | f + 1, i, L, hf, hO, hr, hC => by
    unfold walkF
    by_cases hlt : i < L.length
    · rw [if_pos hlt]
      have hrg := hO.rng _ (List.getElem_mem hlt)
      have e0 : L.getD i (0, []) = L[i] := by rw [List.getD_eq_getElem?_getD, List.getElem?_eq_getElem hlt]; rfl
      obtain ⟨hr1, hr2, _⟩ := row_at hT (s := L[i].1) hrg
      unfold wRound
      rw [e0]
      obtain ⟨⟨t, h1⟩, h2, h3⟩ := wRow_law L[i].2 (T.rows.getD L[i].1.toNat []) 0 L
      have hO' := (wRow_ok (T := T) (fun _ => trivial) L[i].2 (T.rows.getD L[i].1.toNat []) 0 L (fun r hr => by
        obtain ⟨e, g0, g1, rfl⟩ := hr1 r hr
        exact (hT.atOk hrg.1 hrg.2 g0 g1).2.1) hO (by have := hO.len i hlt; omega)).1
      refine walkF_law hT f (i + 1) _ (by omega) hO' ?_ (fun k hk hki => ?_)
      · obtain ⟨t', rfl⟩ := hr
        exact ⟨t' ++ t, by rw [h1]; rfl⟩
      · by_cases hke : k < i
        · have hkl : k < L.length := by omega
          have e2 : (wRow L[i].2 0 (T.rows.getD L[i].1.toNat []) L)[k] = L[k] := by simp only [h1]; rw [List.getElem_append_left hkl]
          rw [e2]
          intro e g0 g1 hn
          rw [h1, keyW, List.map_append]
          exact List.mem_append.mpr (.inl (hC k hkl hke e g0 g1 hn))
        · obtain rfl : k = i := by omega
          have e2 : (wRow L[k].2 0 (T.rows.getD L[k].1.toNat []) L)[k] = L[k] := by simp only [h1]; rw [List.getElem_append_left hlt]
          rw [e2]
          intro e g0 g1 hn
          exact h2 _ (hr2 e g0 g1) hn
    · rw [if_neg hlt]
      refine ⟨hO, hr, fun s hs => ?_⟩
      obtain ⟨k, hk, rfl⟩ := List.getElem_of_mem hs
      simp only [keyW, List.length_map] at hk
      have := hC k hk (by omega)
      simpa [keyW] using this
structure OrOk (T : Tb) (o : List Int) : Prop where
  nd : o.Nodup
  rng : ∀ s ∈ o, 0 ≤ s ∧ s < T.st
  hd : ∃ t, o = T.sr :: t
  clo : ∀ s ∈ o, CloW T o s
  len : o.length ≤ T.st.toNat
theorem order_ok {T : Tb} (hT : VT T) : OrOk T (orderT T) := by
  obtain ⟨h1, ⟨t, h2⟩, h3⟩ := walkF_law hT 40 0 _ rfl (WOk.start hT) ⟨[], rfl⟩ (fun k hk hki => by omega)
  refine ⟨h1.nd, fun s hs => ?_, ⟨keyW t, ?_⟩, h3, ?_⟩
  · obtain ⟨x, hx, rfl⟩ := List.mem_map.mp hs
    exact h1.rng x hx
  · show keyW (walkF T 40 0 [(T.sr, [])]) = _
    rw [h2]; rfl
  · have := h1.le
    show (keyW (walkF T 40 0 [(T.sr, [])])).length ≤ _
    simpa using this
/-! #### members -/
theorem memF_law (cls : List Int) : ∀ (o mem : List Int), (mem.map (gI cls)).Nodup → ((memF cls o mem).map (gI cls)).Nodup ∧ (∃ t, memF cls o mem = mem ++ t) ∧ ∀ s ∈ o, gI cls s ∈ (memF cls o mem).map (gI cls)
  | [], mem, h => ⟨h, ⟨[], by simp [memF]⟩, fun s hs => by simp at hs⟩
  | s :: o, mem, h => by
    have hm : memF cls (s :: o) mem = memF cls o (if gI cls s ∈ mem.map (gI cls) then mem else mem ++ [s]) := rfl
    rw [hm]
    by_cases hc : gI cls s ∈ mem.map (gI cls)
    · rw [if_pos hc]
      obtain ⟨h1, ⟨t, h2⟩, h3⟩ := memF_law cls o mem h
      refine ⟨h1, ⟨t, h2⟩, fun x hx => ?_⟩
      rcases List.mem_cons.mp hx with rfl | hx
      · rw [h2, List.map_append]; exact List.mem_append.mpr (.inl hc)
      · exact h3 x hx
    · rw [if_neg hc]
      obtain ⟨h1, ⟨t, h2⟩, h3⟩ := memF_law cls o (mem ++ [s]) (by
        rw [List.map_append, List.nodup_append]
        refine ⟨h, by simp, fun a ha b hb => ?_⟩
        simp at hb; subst hb
        rintro rfl; exact hc ha)
      refine ⟨h1, ⟨[s] ++ t, by rw [h2, List.append_assoc]⟩, fun x hx => ?_⟩
      rcases List.mem_cons.mp hx with rfl | hx
      · rw [h2]; simp
      · exact h3 x hx
structure MeOk (T : Tb) : Prop where
  nd : ((mems T).map (gI (classes T))).Nodup
  hd : ∃ t, mems T = T.sr :: t
  rng : ∀ s ∈ mems T, 0 ≤ s ∧ s < T.st
  cov : ∀ s ∈ orderT T, gI (classes T) s ∈ (mems T).map (gI (classes T))
  sub : ∀ s ∈ mems T, s ∈ orderT T
  len : (mems T).length ≤ T.st.toNat
theorem mems_ok {T : Tb} (hT : VT T) : MeOk T := by
  have hO := order_ok hT
  obtain ⟨h1, _, h3⟩ := memF_law (classes T) (orderT T) [] (by simp)
  have hsub : ∀ s ∈ mems T, s ∈ orderT T := fun s hs => by
    rcases memF_mem _ _ _ _ hs with h | h
    · simp at h
    · exact h
  refine ⟨h1, ?_, fun s hs => hO.rng s (hsub s hs), h3, hsub, ?_⟩
  · obtain ⟨t, ht⟩ := hO.hd
    unfold mems
    rw [ht]
    have hm : memF (classes T) (T.sr :: t) [] = memF (classes T) t [T.sr] := rfl
    rw [hm]
    obtain ⟨_, ⟨t', h2⟩, _⟩ := memF_law (classes T) t [T.sr] (by simp)
    exact ⟨t', h2⟩
  · have := memF_len (classes T) (orderT T) []
    have := hO.len
    unfold mems
    simp at *
    omega
/-- A state of the least table, and the states that it stands for. -/
def RelL (T : Tb) (k s : Int) : Prop := 0 ≤ k ∧ k < (mems T).length ∧ 0 ≤ s ∧ s < T.st ∧ gI (classes T) s = gI (classes T) ((mems T).getD k.toNat 0)
theorem mem_get {T : Tb} {k : Int} (h0 : 0 ≤ k) (h1 : k < (mems T).length) : ∃ h : k.toNat < (mems T).length, (mems T).getD k.toNat 0 = (mems T)[k.toNat] := by
  have h : k.toNat < (mems T).length := by omega
  exact ⟨h, by rw [List.getD_eq_getElem?_getD, List.getElem?_eq_getElem h]; rfl⟩
theorem least_at {T : Tb} (hT : VT T) {k e : Int} (h0 : 0 ≤ k) (h1 : k < (mems T).length) (g0 : 0 ≤ e) (g1 : e < T.ev) : (leastT T).at k e = leastR (classes T) ((mems T).map (gI (classes T))) (T.at ((mems T).getD k.toNat 0) e) := by
  obtain ⟨h, e1⟩ := mem_get h0 h1
  have hm := (mems_ok hT).rng _ (List.getElem_mem h)
  obtain ⟨_, _, hl⟩ := row_at hT (s := (mems T)[k.toNat]) hm
  have hrow : (leastT T).rows.getD k.toNat [] = (T.rows.getD ((mems T)[k.toNat]).toNat []).map (leastR (classes T) ((mems T).map (gI (classes T)))) := by
    show (leastRows T).getD k.toNat [] = _
    unfold leastRows
    rw [List.getD_eq_getElem?_getD, List.getElem?_map, List.getElem?_eq_getElem h]; rfl
  rw [e1]
  unfold Tb.at
  rw [hrow]
  have hel : e.toNat < (T.rows.getD ((mems T)[k.toNat]).toNat []).length := by omega
  rw [List.getD_eq_getElem?_getD, List.getD_eq_getElem?_getD (l := T.rows.getD _ _), List.getElem?_map, List.getElem?_eq_getElem hel]
  rfl
theorem rel_step {T : Tb} (hT : VT T) {k s e : Int} (h : RelL T k s) (g0 : 0 ≤ e) (g1 : e < T.ev) : diffR (T.at s e) ((leastT T).at k e) = false ∧ (0 ≤ (T.at s e).1 → RelL T ((leastT T).at k e).1 (T.at s e).1) := by
  obtain ⟨h0, h1, h2, h3, h4⟩ := h
  have hM := mems_ok hT
  obtain ⟨hk, e1⟩ := mem_get h0 h1
  rw [least_at hT h0 h1 g0 g1]
  rw [e1] at h4 ⊢
  have hm := hM.rng _ (List.getElem_mem hk)
  have hB := classes_bis hT
  obtain ⟨g2, g3⟩ := hB.same s _ ⟨h2, h3⟩ hm h4 e g0 g1
  have g4 := diffR_false.mp g2
  have r1 := hT.atOk h2 h3 g0 g1
  have r2 := hT.atOk hm.1 hm.2 g0 g1
  unfold leastR
  by_cases hn : 0 ≤ (T.at (mems T)[k.toNat] e).1
  · rw [if_pos hn]
    have hor := (order_ok hT).clo _ (hM.sub _ (List.getElem_mem hk)) e g0 g1 hn
    have hc := hM.cov _ hor
    rw [if_pos hc]
    have hi := idx_lt _ _ hc
    refine ⟨diffR_false.mpr ⟨⟨fun h => ?_, fun h => ?_⟩, g4.2⟩, fun hs0 => ⟨by dsimp only; omega, by dsimp only; simp at hi; omega, hs0, r1.2.1, ?_⟩⟩
    · have := g4.1; omega
    · dsimp only at h; omega
    · rw [g3 hs0]
      dsimp only
      rw [Int.toNat_natCast]
      have hi' : List.idxOf (gI (classes T) (T.at (mems T)[k.toNat] e).1) ((mems T).map (gI (classes T))) < (mems T).length := by simpa using hi
      rw [List.getD_eq_getElem?_getD, List.getElem?_eq_getElem hi']
      have := List.getElem_idxOf hi
      rw [List.getElem_map] at this
      exact this.symm
  · rw [if_neg hn]
    exact ⟨g2, fun hs0 => by have := g4.1; omega⟩
theorem least_valid {T : Tb} (hT : VT T) : VT (leastT T) := by
  have hM := mems_ok hT
  obtain ⟨t, ht⟩ := hM.hd
  have hlen : 1 ≤ (mems T).length := by rw [ht]; simp
  have hst := hT.st
  have hl := hM.len
  have st' : (leastT T).st = ((mems T).length : Int) := rfl
  have hrw : ∀ l ∈ (leastT T).rows, ∃ s ∈ mems T, l = (T.rows.getD s.toNat []).map (leastR (classes T) ((mems T).map (gI (classes T)))) := fun l hl => by
    obtain ⟨s, hs, rfl⟩ := List.mem_map.mp hl
    exact ⟨s, hs, rfl⟩
  refine ⟨by rw [st']; omega, hT.ev, ⟨Int.le_refl _, by rw [st']; show (0 : Int) < _; omega⟩, by rw [st']; show (((leastRows T).length : Nat) : Int) = _; simp [leastRows], fun l hl => ?_, fun l hl r hr => ?_⟩
  · obtain ⟨s, hs, rfl⟩ := hrw l hl
    rw [List.length_map]
    exact (row_at hT (hM.rng s hs)).2.2
  · obtain ⟨s, hs, rfl⟩ := hrw l hl
    obtain ⟨q, hq, rfl⟩ := List.mem_map.mp hr
    have hsr := hM.rng s hs
    obtain ⟨e, g0, g1, rfl⟩ := (row_at hT hsr).1 q hq
    have r1 := hT.atOk hsr.1 hsr.2 g0 g1
    unfold leastR
    split
    · rename_i hn
      have hor := (order_ok hT).clo _ (hM.sub _ hs) e g0 g1 hn
      have hc := hM.cov _ hor
      rw [if_pos hc]
      have hi := idx_lt _ _ hc
      simp at hi
      rw [st']
      dsimp only
      omega
    · rw [st']; omega
theorem rel_start {T : Tb} (hT : VT T) : RelL T 0 T.sr := by
  have hM := mems_ok hT
  obtain ⟨t, ht⟩ := hM.hd
  refine ⟨Int.le_refl _, by rw [ht]; simp, hT.sr.1, hT.sr.2, by rw [ht]; rfl⟩
/-- The least table tells the same. -/
theorem least_alike {T : Tb} (hT : VT T) : ∀ {s k : Int}, Ap T (leastT T) s k → RelL T k s → False := by
  intro s k h
  induction h with
  | here h0 h1 hd => intro hr; have := (rel_step hT hr h0 h1).1; rw [hd] at this; cases this
  | next h0 h1 h2 h3 _ ih => intro hr; exact ih ((rel_step hT hr h0 h1).2 h2)
theorem least_run {T : Tb} (hT : VT T) : ∀ (w : List Int) (s k : Int), (∀ e ∈ w, 0 ≤ e ∧ e < T.ev) → RelL T k s → (T.run s w).1 = ((leastT T).run k w).1
  | [], s, k, _, _ => rfl
  | e :: w, s, k, hw, hr => by
    obtain ⟨g0, g1⟩ := hw e (by simp)
    obtain ⟨h1, h2⟩ := rel_step hT hr g0 g1
    have h3 := diffR_false.mp h1
    unfold Tb.run
    by_cases hn : (T.at s e).1 < 0
    · rw [if_pos hn, if_pos (h3.1.mp hn)]
    · rw [if_neg hn, if_neg (fun h => hn (h3.1.mpr h))]
      dsimp only
      rw [h3.2, least_run hT w _ _ (fun x hx => hw x (by simp [hx])) (h2 (by omega))]
/-- No two states of the least table tell the same. -/
theorem least_apart {T : Tb} (hT : VT T) : ∀ {s t : Int}, Ap T T s t → ∀ k l, RelL T k s → RelL T l t → Ap (leastT T) (leastT T) k l := by
  intro s t h
  induction h with
  | @here a b e h0 h1 hd =>
    intro k l hk hl
    have e1 := diffR_false.mp (rel_step hT hk h0 h1).1
    have e2 := diffR_false.mp (rel_step hT hl h0 h1).1
    refine Ap.here h0 h1 ?_
    cases hc : diffR ((leastT T).at k e) ((leastT T).at l e) with
    | true => rfl
    | false =>
      have e3 := diffR_false.mp hc
      have : diffR (T.at a e) (T.at b e) = false := diffR_false.mpr ⟨e1.1.trans (e3.1.trans e2.1.symm), e1.2.trans (e3.2.trans e2.2.symm)⟩
      rw [hd] at this; cases this
  | next h0 h1 h2 h3 _ ih =>
    intro k l hk hl
    have s1 := rel_step hT hk h0 h1
    have s2 := rel_step hT hl h0 h1
    have e1 := diffR_false.mp s1.1
    have e2 := diffR_false.mp s2.1
    exact Ap.next h0 h1 (by have := e1.1; omega) (by have := e2.1; omega) (ih _ _ (s1.2 h2) (s2.2 h3))
theorem least_pairs {T : Tb} (hT : VT T) {x y : Int} (hx : 0 ≤ x ∧ x < (leastT T).st) (hy : 0 ≤ y ∧ y < (leastT T).st) (hne : x ≠ y) : Ap (leastT T) (leastT T) x y := by
  have hM := mems_ok hT
  have st' : (leastT T).st = ((mems T).length : Int) := rfl
  rw [st'] at hx hy
  obtain ⟨h1, e1⟩ := mem_get hx.1 hx.2
  obtain ⟨h2, e2⟩ := mem_get hy.1 hy.2
  have r1 := hM.rng _ (List.getElem_mem h1)
  have r2 := hM.rng _ (List.getElem_mem h2)
  refine least_apart hT ((classes_bis hT).sep (mems T)[x.toNat] (mems T)[y.toNat] r1 r2 fun hc => hne ?_) x y ⟨hx.1, hx.2, r1.1, r1.2, by rw [e1]⟩ ⟨hy.1, hy.2, r2.1, r2.2, by rw [e2]⟩
  have hnd := hM.nd
  have h3 : ((mems T).map (gI (classes T)))[x.toNat]'(by simpa using h1) = ((mems T).map (gI (classes T)))[y.toNat]'(by simpa using h2) := by simpa using hc
  have := (List.getElem_inj hnd).mp h3
  omega
end Go.Proofs.Ytnggimkkjdipmaa
namespace Go.Proofs.Ytnggimkkjdipmaa
open Go.RowKit
set_option linter.unusedVariables false
set_option linter.unusedSimpArgs false
set_option maxHeartbeats 16000000
set_option maxRecDepth 100000
/-! ### cover, plain -/
/-- The word of a state. -/
def lookW : List (Int × List Int) → Int → List Int
  | [], _ => []
  | x :: L, s => if x.1 = s then x.2 else lookW L s
theorem lookW_none : ∀ (L : List (Int × List Int)) (s : Int), s ∉ keyW L → lookW L s = []
  | [], s, _ => rfl
  | x :: L, s, h => by
    unfold lookW
    rw [if_neg (fun e => h (by simp [e])), lookW_none L s (fun hm => h (by simp only [keyW, List.map_cons]; exact List.mem_cons_of_mem _ hm))]
theorem lookW_snoc : ∀ (L : List (Int × List Int)) (x : Int) (w : List Int), x ∉ keyW L → ∀ s, lookW (L ++ [(x, w)]) s = if s = x then w else lookW L s
  | [], x, w, _, s => by
    simp only [List.nil_append, lookW]
    by_cases h : s = x
    · rw [if_pos h, if_pos h.symm]
    · rw [if_neg h, if_neg (fun e => h e.symm)]
  | y :: L, x, w, h, s => by
    have ih := lookW_snoc L x w (fun hm => h (by simp only [keyW, List.map_cons]; exact List.mem_cons_of_mem _ hm)) s
    simp only [List.cons_append, lookW]
    rw [ih]
    by_cases hy : y.1 = s
    · rw [if_pos hy, if_pos hy]
      by_cases hs : s = x
      · exact absurd (by simp [hy, hs]) h
      · rw [if_neg hs]
    · rw [if_neg hy, if_neg hy]
theorem lookW_at : ∀ (L : List (Int × List Int)) (k : Nat) (h : k < L.length), (keyW L).Nodup → lookW L L[k].1 = L[k].2
  | x :: L, 0, _, _ => by simp [lookW]
  | x :: L, k + 1, h, hn => by
    have hn' := List.nodup_cons.mp (show (x.1 :: keyW L).Nodup from hn)
    have hk : k < L.length := by simpa using h
    have hne : ¬ x.1 = L[k].1 := fun e => hn'.1 (by rw [e]; exact List.mem_map.mpr ⟨L[k], List.getElem_mem hk, rfl⟩)
    simp only [List.getElem_cons_succ, lookW]
    rw [if_neg hne]
    exact lookW_at L k hk hn'.2
theorem lookW_get : ∀ (L : List (Int × List Int)) (s : Int), s ∈ keyW L → ∃ x ∈ L, x.1 = s ∧ x.2 = lookW L s
  | x :: L, s, h => by
    unfold lookW
    by_cases hx : x.1 = s
    · rw [if_pos hx]; exact ⟨x, by simp, hx, rfl⟩
    · rw [if_neg hx]
      obtain ⟨y, hy, h1, h2⟩ := lookW_get L s (by
        rcases List.mem_cons.mp (show s ∈ x.1 :: keyW L from h) with h | h
        · exact absurd h.symm hx
        · exact h)
      exact ⟨y, by simp [hy], h1, h2⟩
theorem lookW_mem {L : List (Int × List Int)} (hn : (keyW L).Nodup) {x : Int × List Int} (hx : x ∈ L) : lookW L x.1 = x.2 := by
  obtain ⟨k, hk, rfl⟩ := List.getElem_of_mem hx
  exact lookW_at L k hk hn
/-- The words that lead to the states. -/
def coverL (T : Tb) : List (List Int) := (List.range T.st.toNat).map fun s : Nat => lookW (walkT T) s
/-- What Cover answers. -/
def coverF (T : Tb) : List (List Int) × Int := if validT T then (coverL (leastT T), 0) else ([], 1)
structure WcO (T : Tb) (L : List (Int × List Int)) (k : Nat) : Prop where
  ok : WOk T L
  wf : walkF T (40 - k) k L = walkT T
  le : k ≤ L.length
structure WcE (T : Tb) (L : List (Int × List Int)) (k e : Nat) : Prop where
  ok : WOk T L
  lt : k < L.length
  wf : walkF T (40 - (k + 1)) (k + 1) (wRow (L.getD k (0, [])).2 e ((T.rows.getD (L.getD k (0, [])).1.toNat []).drop e) L) = walkT T
theorem WcO.start {T : Tb} (hT : VT T) : WcO T [(T.sr, [])] 0 := ⟨WOk.start hT, rfl, by simp⟩
theorem WcO.len {T : Tb} (hT : VT T) {L : List (Int × List Int)} {k : Nat} (h : WcO T L k) : L.length ≤ 30 := by
  have := h.ok.le; have := hT.st; omega
theorem WcE.len {T : Tb} (hT : VT T) {L : List (Int × List Int)} {k e : Nat} (h : WcE T L k e) : L.length ≤ 30 := by
  have := h.ok.le; have := hT.st; omega
theorem WcO.enter {T : Tb} (hT : VT T) {L : List (Int × List Int)} {k : Nat} (h : WcO T L k) (hk : k < L.length) : WcE T L k 0 := by
  have := h.len hT
  have hwf := h.wf
  rw [show 40 - k = (40 - (k + 1)) + 1 by omega] at hwf
  unfold walkF at hwf
  rw [if_pos hk] at hwf
  exact ⟨h.ok, hk, by rw [List.drop_zero]; exact hwf⟩
theorem WcO.fin {T : Tb} (hT : VT T) {L : List (Int × List Int)} {k : Nat} (h : WcO T L k) (hk : ¬ k < L.length) : L = walkT T := by
  have hwf := h.wf
  rw [walkF_more T _ k L (by omega)] at hwf
  exact hwf
theorem WcE.exit {T : Tb} (hT : VT T) {L : List (Int × List Int)} {k e : Nat} (h : WcE T L k e) (he : ¬ (e : Int) < T.ev) : WcO T L (k + 1) := by
  have hlt := h.lt
  have hg : L.getD k (0, []) = L[k] := by rw [List.getD_eq_getElem?_getD, List.getElem?_eq_getElem hlt]; rfl
  have hr := h.ok.rng _ (List.getElem_mem hlt)
  have hl := (row_at hT hr).2.2
  have hwf := h.wf
  rw [hg, List.drop_eq_nil_of_le (by omega)] at hwf
  exact ⟨h.ok, hwf, by omega⟩
theorem WcE.step {T : Tb} (hT : VT T) {L : List (Int × List Int)} {k e : Nat} (h : WcE T L k e) (he : (e : Int) < T.ev) :
    (0 ≤ (T.at (L.getD k (0, [])).1 e).1 ∧ (T.at (L.getD k (0, [])).1 e).1 ∉ keyW L → WcE T (L ++ [((T.at (L.getD k (0, [])).1 e).1, (L.getD k (0, [])).2 ++ [(e : Int)])]) k (e + 1)) ∧
    (¬ (0 ≤ (T.at (L.getD k (0, [])).1 e).1 ∧ (T.at (L.getD k (0, [])).1 e).1 ∉ keyW L) → WcE T L k (e + 1)) := by
  have hlt := h.lt
  have hg : L.getD k (0, []) = L[k] := by rw [List.getD_eq_getElem?_getD, List.getElem?_eq_getElem hlt]; rfl
  have hr := h.ok.rng _ (List.getElem_mem hlt)
  have hl := (row_at hT hr).2.2
  have hwf := h.wf
  rw [hg] at hwf ⊢
  have hlt2 : e < (T.rows.getD L[k].1.toNat []).length := by omega
  have hat : (T.rows.getD L[k].1.toNat [])[e] = T.at L[k].1 e := by
    unfold Tb.at
    rw [Int.toNat_natCast, List.getD_eq_getElem?_getD (i := e), List.getElem?_eq_getElem hlt2]; rfl
  rw [List.drop_eq_getElem_cons hlt2, hat, wRow_cons] at hwf
  have hok := hT.atOk hr.1 hr.2 (e := (e : Int)) (by omega) he
  have hwl := h.ok.len k hlt
  constructor
  · rintro ⟨h0, hn⟩
    have hs : wStep L[k].2 L e (T.at L[k].1 e) = L ++ [((T.at L[k].1 e).1, L[k].2 ++ [(e : Int)])] := by
      unfold wStep
      rw [any_keys, if_pos ⟨h0, by simpa using hn⟩]
    rw [hs] at hwf
    have hg2 : (L ++ [((T.at L[k].1 e).1, L[k].2 ++ [(e : Int)])]).getD k (0, []) = L[k] := by
      rw [List.getD_eq_getElem?_getD, List.getElem?_append_left hlt, List.getElem?_eq_getElem hlt]; rfl
    exact ⟨h.ok.step _ _ h0 hok.2.1 (by rw [any_keys]; simpa using hn) (by rw [List.length_append]; simp; omega), by simp; omega, by rw [hg2]; exact hwf⟩
  · intro hn
    have hs : wStep L[k].2 L e (T.at L[k].1 e) = L := by
      unfold wStep
      rw [any_keys, if_neg (fun hc => hn ⟨hc.1, by simpa using hc.2⟩)]
    rw [hs] at hwf
    exact ⟨h.ok, hlt, by rw [hg]; exact hwf⟩
end Go.Proofs.Ytnggimkkjdipmaa
namespace Go.Proofs.Ytnggimkkjdipmaa
open Go.RowKit
set_option linter.unusedVariables false
set_option linter.unusedSimpArgs false
/-! ### The least table of the least table is itself -/
def kStep (o : List Int) (r : Int × Int) : List Int := if 0 ≤ r.1 ∧ r.1 ∉ o then o ++ [r.1] else o
def kRow (rs : List (Int × Int)) (o : List Int) : List Int := rs.foldl kStep o
def kF (T : Tb) : Nat → Nat → List Int → List Int
  | 0, _, o => o
  | f + 1, i, o => if i < o.length then kF T f (i + 1) (kRow (T.rows.getD (o.getD i 0).toNat []) o) else o
theorem kStep_key (word : List Int) (L : List (Int × List Int)) (e : Nat) (r : Int × Int) : keyW (wStep word L e r) = kStep (keyW L) r := by
  unfold wStep kStep
  rw [any_keys]
  by_cases h : 0 ≤ r.1 ∧ r.1 ∉ keyW L
  · rw [if_pos h, if_pos ⟨h.1, by simpa using h.2⟩]; simp
  · rw [if_neg h, if_neg (fun hc => h ⟨hc.1, by simpa using hc.2⟩)]
theorem kRow_key (word : List Int) : ∀ (rs : List (Int × Int)) (e : Nat) (L : List (Int × List Int)), keyW (wRow word e rs L) = kRow rs (keyW L)
  | [], e, L => rfl
  | r :: rs, e, L => by
    rw [wRow_cons, kRow_key word rs (e + 1), kStep_key]; rfl
theorem kF_key (T : Tb) : ∀ (f i : Nat) (L : List (Int × List Int)), keyW (walkF T f i L) = kF T f i (keyW L)
  | 0, i, L => rfl
  | f + 1, i, L => by
    unfold walkF kF
    by_cases h : i < L.length
    · rw [if_pos h, if_pos (by simpa using h), kF_key T f (i + 1)]
      unfold wRound
      rw [kRow_key]
      congr 3
      rw [List.getD_eq_getElem?_getD, List.getD_eq_getElem?_getD, List.getElem?_map, List.getElem?_eq_getElem h]; rfl
    · rw [if_neg h, if_neg (by simpa using h)]
theorem order_kF (T : Tb) : orderT T = kF T 40 0 [T.sr] := kF_key T 40 0 [(T.sr, [])]
theorem kStep_pre (o : List Int) (r : Int × Int) : ∃ t, kStep o r = o ++ t := by
  unfold kStep; split
  · exact ⟨_, rfl⟩
  · exact ⟨[], by simp⟩
theorem kRow_pre : ∀ (rs : List (Int × Int)) (o : List Int), ∃ t, kRow rs o = o ++ t
  | [], o => ⟨[], by simp [kRow]⟩
  | r :: rs, o => by
    obtain ⟨t, h⟩ := kStep_pre o r
    obtain ⟨t', h'⟩ := kRow_pre rs (kStep o r)
    exact ⟨t ++ t', by show kRow rs (kStep o r) = _; rw [h', h, List.append_assoc]⟩
theorem kRow_all : ∀ (rs : List (Int × Int)) (o : List Int) (r : Int × Int), r ∈ rs → 0 ≤ r.1 → r.1 ∈ kRow rs o
  | r :: rs, o, q, hq, h0 => by
    show q.1 ∈ kRow rs (kStep o r)
    rcases List.mem_cons.mp hq with rfl | hq
    · obtain ⟨t, h⟩ := kRow_pre rs (kStep o q)
      rw [h]
      refine List.mem_append.mpr (.inl ?_)
      unfold kStep
      split
      · simp
      · rename_i hc
        exact Classical.byContradiction fun hn => hc ⟨h0, hn⟩
    · exact kRow_all rs _ q hq h0
theorem kF_pre (T : Tb) : ∀ (f i : Nat) (o : List Int), ∃ t, kF T f i o = o ++ t
  | 0, i, o => ⟨[], by simp [kF]⟩
  | f + 1, i, o => by
    unfold kF
    split
    · obtain ⟨t, h⟩ := kRow_pre (T.rows.getD (o.getD i 0).toNat []) o
      obtain ⟨t', h'⟩ := kF_pre T f (i + 1) (kRow (T.rows.getD (o.getD i 0).toNat []) o)
      exact ⟨t ++ t', by rw [h', h, List.append_assoc]⟩
    · exact ⟨[], by simp⟩
theorem memF_app (cls : List Int) : ∀ (o t mem : List Int), memF cls (o ++ t) mem = memF cls t (memF cls o mem)
  | [], t, mem => rfl
  | x :: o, t, mem => memF_app cls o t _
theorem memF_pre (cls : List Int) (o t : List Int) : ∃ t', memF cls (o ++ t) [] = memF cls o [] ++ t' := by
  rw [memF_app]
  obtain ⟨_, h, _⟩ := memF_law cls t (memF cls o []) (memF_law cls o [] (by simp)).1
  exact h
def iota (c : Nat) : List Int := (List.range c).map fun k : Nat => (k : Int)
theorem iota_len (c : Nat) : (iota c).length = c := by simp [iota]
theorem iota_succ (c : Nat) : iota (c + 1) = iota c ++ [(c : Int)] := by simp [iota, List.range_succ]
theorem iota_mem (c k : Nat) : (k : Int) ∈ iota c ↔ k < c := by
  unfold iota
  simp only [List.mem_map, List.mem_range]
  constructor
  · rintro ⟨j, hj, e⟩; omega
  · intro h; exact ⟨k, h, rfl⟩
/-- The place of a class among the classes of the members. -/
theorem place {T : Tb} (hM : MeOk T) {o : List Int} {t : List Int} (ho : orderT T = o ++ t) {x : Int} (hx : x ∈ orderT T) :
    (gI (classes T) x ∈ (memF (classes T) o []).map (gI (classes T)) ↔ ((mems T).map (gI (classes T))).idxOf (gI (classes T) x) < (memF (classes T) o []).length) := by
  obtain ⟨t', ht'⟩ := memF_pre (classes T) o t
  rw [← ho] at ht'
  have hm : mems T = memF (classes T) o [] ++ t' := ht'
  have hkeys : (mems T).map (gI (classes T)) = (memF (classes T) o []).map (gI (classes T)) ++ t'.map (gI (classes T)) := by rw [hm, List.map_append]
  have hin := hM.cov x hx
  have hi := idx_lt _ _ hin
  have hg := List.getElem_idxOf hi
  constructor
  · intro h
    rw [hkeys]
    have := idx_lt _ _ h
    rw [List.idxOf_append, if_pos h]
    simpa using this
  · intro h
    have h2 : ((mems T).map (gI (classes T)))[((mems T).map (gI (classes T))).idxOf (gI (classes T) x)]? = some (gI (classes T) x) := by rw [List.getElem?_eq_getElem hi, hg]
    rw [hkeys, List.getElem?_append_left (by rw [← hkeys]; simpa using h)] at h2
    exact List.mem_of_getElem? h2
theorem row_sim {T : Tb} (hM : MeOk T) : ∀ (rs : List (Int × Int)) (o t : List Int), orderT T = kRow rs o ++ t → (∀ r ∈ rs, 0 ≤ r.1 → r.1 ∈ orderT T) →
    kRow (rs.map (leastR (classes T) ((mems T).map (gI (classes T))))) (iota (memF (classes T) o []).length) = iota (memF (classes T) (kRow rs o) []).length
  | [], o, t, _, _ => rfl
  | r :: rs, o, t, ho, hr => by
    have ih := fun o' h => row_sim hM rs o' t h (fun q hq => hr q (by simp [hq]))
    have ho' : orderT T = kRow rs (kStep o r) ++ t := ho
    show kRow (rs.map _) (kStep (iota _) (leastR _ _ r)) = iota (memF (classes T) (kRow rs (kStep o r)) []).length
    rw [← ih (kStep o r) ho']
    congr 1
    by_cases h0 : 0 ≤ r.1
    · have hx := hr r (by simp) h0
      have hc := hM.cov _ hx
      obtain ⟨t1, e1⟩ := kStep_pre o r
      obtain ⟨t2, e2⟩ := kRow_pre rs (kStep o r)
      have hp := place hM (o := o) (t := t1 ++ t2 ++ t) (by rw [ho', e2, e1]; simp [List.append_assoc]) hx
      have hl : leastR (classes T) ((mems T).map (gI (classes T))) r = (((((mems T).map (gI (classes T))).idxOf (gI (classes T) r.1) : Nat) : Int), r.2) := by
        unfold leastR; rw [if_pos h0, if_pos hc]
      rw [hl]
      obtain ⟨d, hd⟩ : ∃ d, ((mems T).map (gI (classes T))).idxOf (gI (classes T) r.1) = d := ⟨_, rfl⟩
      rw [hd] at hp ⊢
      by_cases hin : r.1 ∈ o
      · have hk : kStep o r = o := by unfold kStep; rw [if_neg (fun h => h.2 hin)]
        have hmem : gI (classes T) r.1 ∈ (memF (classes T) o []).map (gI (classes T)) := (memF_law (classes T) o [] (by simp)).2.2 _ hin
        rw [hk]
        unfold kStep
        rw [if_neg (fun h => h.2 ((iota_mem _ _).mpr (hp.mp hmem)))]
      · have hk : kStep o r = o ++ [r.1] := by unfold kStep; rw [if_pos ⟨h0, hin⟩]
        rw [hk, memF_snoc]
        by_cases hmem : gI (classes T) r.1 ∈ (memF (classes T) o []).map (gI (classes T))
        · rw [if_pos hmem]
          unfold kStep
          rw [if_neg (fun h => h.2 ((iota_mem _ _).mpr (hp.mp hmem)))]
        · rw [if_neg hmem]
          have hge : ¬ d < (memF (classes T) o []).length := fun h => hmem (hp.mpr h)
          have hp2 := place hM (o := o ++ [r.1]) (t := t2 ++ t) (by rw [ho', e2, hk]; simp [List.append_assoc]) hx
          rw [memF_snoc, if_neg hmem, hd] at hp2
          have hlt := hp2.mp (by simp)
          simp at hlt
          have hde : d = (memF (classes T) o []).length := by omega
          unfold kStep
          rw [if_pos ⟨by dsimp only; omega, fun h => hge ((iota_mem _ _).mp h)⟩]
          rw [List.length_append, List.length_singleton, iota_succ, hde]
    · have hk : kStep o r = o := by unfold kStep; rw [if_neg (fun h => h0 h.1)]
      have hl : leastR (classes T) ((mems T).map (gI (classes T))) r = r := by unfold leastR; rw [if_neg h0]
      rw [hk, hl]
      unfold kStep
      rw [if_neg (fun h => h0 h.1)]
theorem memF_row (cls : List Int) : ∀ (rs : List (Int × Int)) (o : List Int), (∀ r ∈ rs, 0 ≤ r.1 → gI cls r.1 ∈ (memF cls o []).map (gI cls)) → memF cls (kRow rs o) [] = memF cls o []
  | [], o, _ => rfl
  | r :: rs, o, h => by
    show memF cls (kRow rs (kStep o r)) [] = _
    have hs : memF cls (kStep o r) [] = memF cls o [] := by
      unfold kStep
      split
      · rename_i hc
        rw [memF_snoc, if_pos (h r (by simp) hc.1)]
      · rfl
    rw [memF_row cls rs (kStep o r) (fun q hq h0 => by rw [hs]; exact h q (by simp [hq]) h0), hs]
theorem kF_sim {T : Tb} (hT : VT T) : ∀ (f i f' : Nat) (o : List Int), f + i = 40 → orderT T = kF T f i o → (∀ s ∈ o, 0 ≤ s ∧ s < T.st) → (∀ k (h : k < o.length), k < i → CloW T o o[k]) → i ≤ o.length → o.length ≤ 30 → f' + (memF (classes T) (o.take i) []).length = 40 →
    kF (leastT T) f' (memF (classes T) (o.take i) []).length (iota (memF (classes T) o []).length) = iota (memF (classes T) (orderT T) []).length
  | f, i, f', o, hf, ho, hrg, hC, hi, hlen, hf' => by
    have hM := mems_ok hT
    by_cases hlt : i < o.length
    · obtain ⟨f, rfl⟩ : ∃ g, f = g + 1 := ⟨f - 1, by omega⟩
      have e0 : o.getD i 0 = o[i] := by rw [List.getD_eq_getElem?_getD, List.getElem?_eq_getElem hlt]; rfl
      have ho2 := ho
      unfold kF at ho2
      rw [if_pos hlt, e0] at ho2
      obtain ⟨t, ht⟩ := kF_pre T f (i + 1) (kRow (T.rows.getD (o[i]).toNat []) o)
      rw [ht] at ho2
      have hs := hrg _ (List.getElem_mem hlt)
      obtain ⟨hr1, hr2, _⟩ := row_at hT hs
      have hO := order_ok hT
      obtain ⟨t1, ht1⟩ := kRow_pre (T.rows.getD (o[i]).toNat []) o
      have hin : ∀ x ∈ kRow (T.rows.getD (o[i]).toNat []) o, x ∈ orderT T := fun x hx => by rw [ho2]; exact List.mem_append.mpr (.inl hx)
      have hrg2 : ∀ s ∈ kRow (T.rows.getD (o[i]).toNat []) o, 0 ≤ s ∧ s < T.st := fun s hs => hO.rng s (hin s hs)
      have hlen2 : (kRow (T.rows.getD (o[i]).toNat []) o).length ≤ 30 := by
        have := hO.len
        rw [ho2, List.length_append] at this
        have := hT.st
        omega
      have hC2 : ∀ k (h : k < (kRow (T.rows.getD (o[i]).toNat []) o).length), k < i + 1 → CloW T (kRow (T.rows.getD (o[i]).toNat []) o) (kRow (T.rows.getD (o[i]).toNat []) o)[k] := fun k hk hki => by
        have hko : k < o.length := by omega
        have e2 : (kRow (T.rows.getD (o[i]).toNat []) o)[k] = o[k] := by simp only [ht1]; rw [List.getElem_append_left hko]
        rw [e2]
        by_cases hke : k < i
        · intro e g0 g1 hn
          rw [ht1]
          exact List.mem_append.mpr (.inl (hC k hko hke e g0 g1 hn))
        · obtain rfl : k = i := by omega
          intro e g0 g1 hn
          exact kRow_all _ _ _ (hr2 e g0 g1) hn
      have htk : (kRow (T.rows.getD (o[i]).toNat []) o).take (i + 1) = o.take i ++ [o[i]] := by
        rw [ht1, List.take_append_of_le_length (by omega), List.take_succ_eq_append_getElem hlt]
      have hol : o.length ≤ (kRow (T.rows.getD (o[i]).toNat []) o).length := by rw [ht1, List.length_append]; omega
      by_cases hcl : gI (classes T) o[i] ∈ (memF (classes T) (o.take i) []).map (gI (classes T))
      · obtain ⟨m, hm, hme⟩ := List.mem_map.mp hcl
        have hmo : m ∈ o.take i := by
          rcases memF_mem _ _ _ _ hm with h | h
          · simp at h
          · exact h
        obtain ⟨j, hj, rfl⟩ := List.getElem_of_mem hmo
        rw [List.length_take] at hj
        have hji : j < i := by omega
        have hjo : j < o.length := by omega
        rw [List.getElem_take] at hme
        have hB := classes_bis hT
        have hsame : memF (classes T) (kRow (T.rows.getD (o[i]).toNat []) o) [] = memF (classes T) o [] := memF_row _ _ _ fun r hr h0 => by
          obtain ⟨e, g0, g1, rfl⟩ := hr1 r hr
          obtain ⟨g2, g3⟩ := hB.same _ _ hs (hrg _ (List.getElem_mem hjo)) hme.symm e g0 g1
          rw [g3 h0]
          have g4 := diffR_false.mp g2
          exact (memF_law (classes T) o [] (by simp)).2.2 _ (hC j hjo hji e g0 g1 (by have := g4.1; omega))
        have htk2 : memF (classes T) ((kRow (T.rows.getD (o[i]).toNat []) o).take (i + 1)) [] = memF (classes T) (o.take i) [] := by rw [htk, memF_snoc, if_pos hcl]
        have ih := kF_sim hT f (i + 1) f' (kRow (T.rows.getD (o[i]).toNat []) o) (by omega) (by rw [ho2, ht]) hrg2 hC2 (by omega) hlen2 (by rw [htk2]; exact hf')
        rw [htk2, hsame] at ih
        exact ih
      · have htk2 : memF (classes T) ((kRow (T.rows.getD (o[i]).toNat []) o).take (i + 1)) [] = memF (classes T) (o.take i) [] ++ [o[i]] := by rw [htk, memF_snoc, if_neg hcl]
        have hpre : ∃ t', memF (classes T) o [] = memF (classes T) (o.take i) [] ++ [o[i]] ++ t' := by
          obtain ⟨t', h'⟩ := memF_pre (classes T) (o.take (i + 1)) (o.drop (i + 1))
          rw [List.take_append_drop, List.take_succ_eq_append_getElem hlt, memF_snoc, if_neg hcl] at h'
          exact ⟨t', h'⟩
        obtain ⟨t', hp⟩ := hpre
        have hlt2 : (memF (classes T) (o.take i) []).length < (memF (classes T) o []).length := by rw [hp]; simp
        have hmo : (memF (classes T) o []).length ≤ 30 := by have := memF_len (classes T) o []; simp at this; omega
        obtain ⟨g', rfl⟩ : ∃ g, f' = g + 1 := ⟨f' - 1, by omega⟩
        have hmm : ∃ t2, mems T = memF (classes T) o [] ++ t2 := by
          obtain ⟨t2, h2⟩ := memF_pre (classes T) o (t1 ++ t)
          exact ⟨t2, by unfold mems; rw [ho2, ht1, List.append_assoc]; exact h2⟩
        obtain ⟨t2, hmm⟩ := hmm
        have hget : (mems T)[(memF (classes T) (o.take i) []).length]? = some o[i] := by
          rw [hmm, hp, List.append_assoc, List.append_assoc, List.getElem?_append_right (Nat.le_refl _), Nat.sub_self]; rfl
        have hrow : (leastT T).rows.getD ((iota (memF (classes T) o []).length).getD (memF (classes T) (o.take i) []).length 0).toNat [] = (T.rows.getD (o[i]).toNat []).map (leastR (classes T) ((mems T).map (gI (classes T)))) := by
          have : (iota (memF (classes T) o []).length).getD (memF (classes T) (o.take i) []).length 0 = ((memF (classes T) (o.take i) []).length : Int) := by
            unfold iota
            rw [List.getD_eq_getElem?_getD, List.getElem?_map, List.getElem?_range hlt2]; rfl
          rw [this, Int.toNat_natCast]
          show (leastRows T).getD _ [] = _
          unfold leastRows
          rw [List.getD_eq_getElem?_getD, List.getElem?_map, hget]; rfl
        conv => lhs; unfold kF
        rw [if_pos (by rw [iota_len]; exact hlt2), hrow, row_sim hM _ o t ho2 (fun r hr h0 => hin _ (kRow_all _ _ _ hr h0))]
        have ih := kF_sim hT f (i + 1) g' (kRow (T.rows.getD (o[i]).toNat []) o) (by omega) (by rw [ho2, ht]) hrg2 hC2 (by omega) hlen2 (by rw [htk2, List.length_append, List.length_singleton]; omega)
        rw [htk2, List.length_append, List.length_singleton] at ih
        exact ih
    · have hio : i = o.length := by omega
      have hoo : orderT T = o := by
        rw [ho]
        cases f with
        | zero => rfl
        | succ f => unfold kF; rw [if_neg hlt]
      rw [hoo, hio, List.take_length]
      cases f' with
      | zero => rfl
      | succ g => unfold kF; rw [if_neg (by rw [iota_len]; omega)]
termination_by f => f
/-- The states of the least table are met in their own order. -/
theorem least_order {T : Tb} (hT : VT T) : orderT (leastT T) = iota (mems T).length := by
  have := kF_sim hT 40 0 40 [T.sr] rfl (order_kF T) (fun s hs => by simp at hs; subst hs; exact hT.sr) (fun k hk hki => by omega) (by simp) (by simp) rfl
  rw [order_kF]
  exact this
/-- A table whose states are met in their own order, no two of one class, is its own least. -/
theorem rows_self {M : Tb} (hL : VT M) (hmem : mems M = iota M.st.toNat) (hinj : ∀ x y : Int, 0 ≤ x ∧ x < M.st → 0 ≤ y ∧ y < M.st → gI (classes M) x = gI (classes M) y → x = y) : leastRows M = M.rows := by
  obtain ⟨n, hn⟩ : ∃ n, M.st.toNat = n := ⟨_, rfl⟩
  rw [hn] at hmem
  have hrl := hL.rows
  have hst := hL.st
  obtain ⟨cls, hcls⟩ : ∃ c, classes M = c := ⟨_, rfl⟩
  rw [hcls] at hinj
  have hkm : ∀ x : Int, 0 ≤ x ∧ x < M.st → gI cls x ∈ (iota n).map (gI cls) := fun x hx => by
    have := (iota_mem n x.toNat).mpr (by omega)
    rw [Int.toNat_of_nonneg hx.1] at this
    exact List.mem_map.mpr ⟨x, this, rfl⟩
  have hkeys : ∀ x : Int, 0 ≤ x ∧ x < M.st → (((iota n).map (gI cls)).idxOf (gI cls x) : Int) = x := fun x hx => by
    have hin := hkm x hx
    have hi := idx_lt _ _ hin
    have hg := List.getElem_idxOf hi
    obtain ⟨d, hd⟩ : ∃ d, ((iota n).map (gI cls)).idxOf (gI cls x) = d := ⟨_, rfl⟩
    simp only [hd] at hg
    rw [hd] at hi ⊢
    have hdn : d < n := by simpa [iota] using hi
    have hgd : (iota n)[d]'(by rw [iota_len]; exact hdn) = (d : Int) := by simp [iota]
    rw [List.getElem_map, hgd] at hg
    exact hinj _ _ (by omega) hx hg
  unfold leastRows
  rw [hmem, hcls]
  apply List.ext_getElem
  · simp [iota]; omega
  · intro i h1 h2
    have hi : i < n := by simpa [iota] using h1
    have hgi : (iota n)[i]'(by rw [iota_len]; exact hi) = (i : Int) := by simp [iota]
    rw [List.getElem_map, hgi, Int.toNat_natCast, List.getD_eq_getElem?_getD, List.getElem?_eq_getElem h2]
    show (M.rows[i]).map _ = M.rows[i]
    apply List.ext_getElem
    · simp
    · intro j g1 g2
      rw [List.getElem_map]
      have hcell := hL.cell _ (List.getElem_mem h2) _ (List.getElem_mem g2)
      unfold leastR
      split
      · rename_i hn0
        have hx : 0 ≤ (M.rows[i][j]).1 ∧ (M.rows[i][j]).1 < M.st := ⟨hn0, hcell.2.1⟩
        rw [if_pos (hkm _ hx), hkeys _ hx]
      · rfl
theorem least_self {T : Tb} (hT : VT T) : leastT (leastT T) = leastT T := by
  have hL := least_valid hT
  have hM := mems_ok hT
  have hB := classes_bis hL
  have hord := least_order hT
  have st' : (leastT T).st = ((mems T).length : Int) := rfl
  have hinj : ∀ x y : Int, 0 ≤ x ∧ x < (leastT T).st → 0 ≤ y ∧ y < (leastT T).st → gI (classes (leastT T)) x = gI (classes (leastT T)) y → x = y := fun x y hx hy hc => by
    refine Classical.byContradiction fun hne => ?_
    have key : ∀ a b : Int, Ap (leastT T) (leastT T) a b → 0 ≤ a ∧ a < (leastT T).st → 0 ≤ b ∧ b < (leastT T).st → gI (classes (leastT T)) a = gI (classes (leastT T)) b → False := by
      intro a b h
      induction h with
      | here h0 h1 hd => intro ha hb hc; have := (hB.same _ _ ha hb hc _ h0 h1).1; rw [hd] at this; cases this
      | next h0 h1 h2 h3 _ ih =>
        intro ha hb hc
        have r1 := hL.atOk ha.1 ha.2 h0 h1
        have r2 := hL.atOk hb.1 hb.2 h0 h1
        exact ih ⟨h2, r1.2.1⟩ ⟨h3, r2.2.1⟩ ((hB.same _ _ ha hb hc _ h0 h1).2 h2)
    exact key x y (least_pairs hT hx hy hne) hx hy hc
  have hio : ∀ x ∈ iota (mems T).length, 0 ≤ x ∧ x < (leastT T).st := fun x hx => by
    obtain ⟨k, hk, rfl⟩ := List.mem_map.mp hx
    rw [st']
    have := List.mem_range.mp hk
    constructor <;> omega
  have hmem : mems (leastT T) = iota (mems T).length := by
    have hgen : ∀ (o mem : List Int), (mem ++ o).Nodup → (∀ x ∈ mem ++ o, 0 ≤ x ∧ x < (leastT T).st) → memF (classes (leastT T)) o mem = mem ++ o := by
      intro o
      induction o with
      | nil => intro mem _ _; simp [memF]
      | cons s o ih =>
        intro mem hnd hr
        have hm : memF (classes (leastT T)) (s :: o) mem = memF (classes (leastT T)) o (if gI (classes (leastT T)) s ∈ mem.map (gI (classes (leastT T))) then mem else mem ++ [s]) := rfl
        have hns : ¬ gI (classes (leastT T)) s ∈ mem.map (gI (classes (leastT T))) := fun hc => by
          obtain ⟨y, hy, he⟩ := List.mem_map.mp hc
          have := hinj y s (hr y (by simp [hy])) (hr s (by simp)) he
          subst this
          rw [List.nodup_append] at hnd
          exact hnd.2.2 y hy y (by simp) rfl
        rw [hm, if_neg hns, ih (mem ++ [s]) (by rw [List.append_assoc]; exact hnd) (by rw [List.append_assoc]; exact hr), List.append_assoc]; rfl
    unfold mems
    rw [hord]
    have hnd := (order_ok hL).nd
    rw [hord] at hnd
    have := hgen (iota (mems T).length) [] (by simpa using hnd) (by simpa using hio)
    rw [List.nil_append] at this
    exact this
  have hrows : leastRows (leastT T) = (leastT T).rows := rows_self hL (by rw [hmem]; rfl) hinj
  have hst : ((mems (leastT T)).length : Int) = (leastT T).st := by rw [hmem, iota_len]; rfl
  show (⟨((mems (leastT T)).length : Int), (leastT T).ev, 0, leastRows (leastT T)⟩ : Tb) = leastT T
  rw [hst, hrows]
  rfl
end Go.Proofs.Ytnggimkkjdipmaa
namespace Go.Proofs.Ytnggimkkjdipmaa
open Go.RowKit
set_option linter.unusedVariables false
set_option linter.unusedSimpArgs false
set_option maxHeartbeats 16000000
set_option maxRecDepth 100000
/-! ### The reference's walk over states that stand for others: plain -/
/-- The number of a state's class. -/
def kl (T : Tb) (s : Int) : Int := ((((mems T).map (gI (classes T))).idxOf (gI (classes T) s) : Nat) : Int)
theorem ap_cls {T : Tb} (hT : VT T) {s t : Int} (hs : 0 ≤ s ∧ s < T.st) (ht : 0 ≤ t ∧ t < T.st) : Ap T T s t ↔ gI (classes T) s ≠ gI (classes T) t := by
  have hB := classes_bis hT
  refine ⟨fun h => ?_, fun h => hB.sep s t hs ht h⟩
  have key : ∀ x y : Int, Ap T T x y → 0 ≤ x ∧ x < T.st → 0 ≤ y ∧ y < T.st → gI (classes T) x = gI (classes T) y → False := by
    intro x y hxy
    induction hxy with
    | @here x y e h0 h1 hd => intro hx hy hc; have := (hB.same x y hx hy hc e h0 h1).1; rw [hd] at this; cases this
    | @next x y e h0 h1 h2 h3 _ ih =>
      intro hx hy hc
      have r1 := hT.atOk hx.1 hx.2 h0 h1
      have r2 := hT.atOk hy.1 hy.2 h0 h1
      exact ih ⟨h2, r1.2.1⟩ ⟨h3, r2.2.1⟩ ((hB.same x y hx hy hc e h0 h1).2 h2)
  exact fun hc => key s t h hs ht hc
theorem kl_rel {T : Tb} (hT : VT T) {s : Int} (h : s ∈ orderT T) : RelL T (kl T s) s := by
  have hM := mems_ok hT
  have hO := order_ok hT
  have hc := hM.cov s h
  have hi := idx_lt _ _ hc
  have hr := hO.rng s h
  have hi2 : ((mems T).map (gI (classes T))).idxOf (gI (classes T) s) < (mems T).length := by simpa using hi
  refine ⟨by unfold kl; omega, by unfold kl; omega, hr.1, hr.2, ?_⟩
  unfold kl
  rw [Int.toNat_natCast, List.getD_eq_getElem?_getD, List.getElem?_eq_getElem hi2]
  have := List.getElem_idxOf hi
  rw [List.getElem_map] at this
  exact this.symm
theorem kl_inj {T : Tb} (hT : VT T) {s t : Int} (hs : s ∈ orderT T) : kl T s = kl T t ↔ gI (classes T) s = gI (classes T) t := by
  have hM := mems_ok hT
  unfold kl
  constructor
  · intro h
    exact idxOf_inj _ _ _ (hM.cov s hs) (by omega)
  · intro h; rw [h]
theorem kl_uniq {T : Tb} (hT : VT T) {k s : Int} (h : RelL T k s) : kl T s = k := by
  have hM := mems_ok hT
  obtain ⟨h0, h1, h2, h3, h4⟩ := h
  obtain ⟨hk, e1⟩ := mem_get h0 h1
  rw [e1] at h4
  unfold kl
  have hnd := hM.nd
  have hk' : k.toNat < ((mems T).map (gI (classes T))).length := by simpa using hk
  have : ((mems T).map (gI (classes T))).idxOf (gI (classes T) s) = k.toNat := by
    rw [h4, show gI (classes T) (mems T)[k.toNat] = ((mems T).map (gI (classes T)))[k.toNat] by rw [List.getElem_map]]
    exact hnd.idxOf_getElem k.toNat hk'
  rw [this]; omega
/-- A state behind others, unless one of them is of its class. -/
def mtL (T : Tb) (l : List Int) (s : Int) : List Int := if l.any (fun x => decide (gI (classes T) x = gI (classes T) s)) then l else l ++ [s]
structure WaI (T : Tb) (l : List Int) : Prop where
  mem : ∀ s ∈ l, s ∈ orderT T
  nd : (l.map (kl T)).Nodup
theorem WaI.len {T : Tb} (hT : VT T) {l : List Int} (h : WaI T l) : l.length ≤ T.st.toNat := by
  have hn : l.Nodup := by
    have := h.nd
    exact (List.pairwise_map.mp this).imp (fun h e => h (by rw [e]))
  have := pigeon l (orderT T) hn h.mem
  have := (order_ok hT).len
  omega
theorem WaI.mt {T : Tb} (hT : VT T) {l : List Int} (h : WaI T l) {s : Int} (hs : s ∈ orderT T) (x : Int) : WaI T (mtL T l s) ∧ (mtL T l s).map (kl T) = kStep (l.map (kl T)) (kl T s, x) ∧ ∃ t, mtL T l s = l ++ t := by
  have hk : (0 : Int) ≤ kl T s := by unfold kl; omega
  have hiff : l.any (fun x => decide (gI (classes T) x = gI (classes T) s)) = true ↔ kl T s ∈ l.map (kl T) := by
    simp only [List.any_eq_true, decide_eq_true_eq, List.mem_map]
    constructor
    · rintro ⟨y, hy, he⟩; exact ⟨y, hy, (kl_inj hT (h.mem y hy)).mpr he⟩
    · rintro ⟨y, hy, he⟩; exact ⟨y, hy, (kl_inj hT (h.mem y hy)).mp he⟩
  unfold mtL kStep
  dsimp only
  by_cases hc : l.any (fun x => decide (gI (classes T) x = gI (classes T) s)) = true
  · rw [if_pos hc, if_neg (fun hn => hn.2 (hiff.mp hc))]
    exact ⟨h, rfl, [], by simp⟩
  · rw [if_neg hc, if_pos ⟨hk, fun hn => hc (hiff.mpr hn)⟩]
    refine ⟨⟨fun y hy => ?_, ?_⟩, by simp, [s], rfl⟩
    · rcases List.mem_append.mp hy with hy | hy
      · exact h.mem y hy
      · simp at hy; subst hy; exact hs
    · rw [List.map_append, List.nodup_append]
      refine ⟨h.nd, by simp, fun a ha b hb => ?_⟩
      simp at hb; subst hb
      rintro rfl; exact hc (hiff.mpr ha)
/-- At state k's round. -/
structure WoI (T : Tb) (l : List Int) (k : Nat) : Prop extends WaI T l where
  kf : kF (leastT T) (40 - k) k (l.map (kl T)) = orderT (leastT T)
  pos : 0 < l.length
  le : k ≤ l.length
structure WeI (T : Tb) (l : List Int) (k e : Nat) : Prop extends WaI T l where
  lt : k < l.length
  kf : kF (leastT T) (40 - (k + 1)) (k + 1) (kRow (((leastT T).rows.getD (kl T (l.getD k 0)).toNat []).drop e) (l.map (kl T))) = orderT (leastT T)
theorem WoI.start {T : Tb} (hT : VT T) : WoI T [T.sr] 0 := by
  have hO := order_ok hT
  obtain ⟨t, ht⟩ := hO.hd
  have h0 : kl T T.sr = 0 := kl_uniq hT (rel_start hT)
  refine ⟨⟨fun s hs => ?_, by simp⟩, ?_, by simp, by simp⟩
  · simp at hs; subst hs; rw [ht]; simp
  · rw [order_kF]
    show kF (leastT T) 40 0 [kl T T.sr] = _
    rw [h0]; rfl
theorem WoI.enter {T : Tb} (hT : VT T) {l : List Int} {k : Nat} (h : WoI T l k) (hk : k < l.length) : WeI T l k 0 := by
  have := h.toWaI.len hT
  have := hT.st
  refine ⟨h.toWaI, hk, ?_⟩
  have hkf := h.kf
  rw [show 40 - k = (40 - (k + 1)) + 1 by omega] at hkf
  unfold kF at hkf
  rw [if_pos (by simpa using hk)] at hkf
  rw [List.drop_zero]
  rw [show (l.map (kl T)).getD k 0 = kl T (l.getD k 0) by rw [List.getD_eq_getElem?_getD, List.getD_eq_getElem?_getD, List.getElem?_map, List.getElem?_eq_getElem hk]; rfl] at hkf
  exact hkf
theorem WoI.fin {T : Tb} (hT : VT T) {l : List Int} {k : Nat} (h : WoI T l k) (hk : ¬ k < l.length) : l.map (kl T) = iota (mems T).length := by
  have := h.toWaI.len hT
  have := hT.st
  have := h.le
  have hkf := h.kf
  rw [show 40 - k = (40 - (k + 1)) + 1 by omega] at hkf
  unfold kF at hkf
  rw [if_neg (by simpa using hk)] at hkf
  rw [hkf, least_order hT]
theorem wRow_len {T : Tb} (hT : VT T) {s : Int} (hs : s ∈ orderT T) : (((leastT T).rows.getD (kl T s).toNat []).length : Int) = T.ev := by
  have h := kl_rel hT hs
  have hL := least_valid hT
  have st' : (leastT T).st = ((mems T).length : Int) := rfl
  exact (row_at hL (s := kl T s) ⟨h.1, by rw [st']; exact h.2.1⟩).2.2
theorem wRow_at {T : Tb} (hT : VT T) {s : Int} (hs : s ∈ orderT T) {e : Nat} (he : (e : Int) < T.ev) (hlt : e < ((leastT T).rows.getD (kl T s).toNat []).length) :
    ((leastT T).rows.getD (kl T s).toNat [])[e] = if 0 ≤ (T.at s e).1 then (kl T (T.at s e).1, (T.at s e).2) else T.at s e := by
  have h := kl_rel hT hs
  have hL := least_valid hT
  have hr := (order_ok hT).rng s hs
  have st' : (leastT T).st = ((mems T).length : Int) := rfl
  have e1 : ((leastT T).rows.getD (kl T s).toNat [])[e] = (leastT T).at (kl T s) e := by
    unfold Tb.at
    rw [Int.toNat_natCast, List.getD_eq_getElem?_getD (i := e), List.getElem?_eq_getElem hlt]; rfl
  rw [e1]
  obtain ⟨h1, h2⟩ := rel_step hT h (e := (e : Int)) (by omega) he
  obtain ⟨h3, h4⟩ := diffR_false.mp h1
  have a1 := hT.atOk hr.1 hr.2 (e := (e : Int)) (by omega) he
  have a2 := hL.atOk (s := kl T s) (e := (e : Int)) h.1 (by rw [st']; exact h.2.1) (by omega) he
  by_cases hn : 0 ≤ (T.at s e).1
  · rw [if_pos hn]
    have := kl_uniq hT (h2 hn)
    refine Prod.ext this.symm h4.symm
  · rw [if_neg hn]
    refine Prod.ext ?_ h4.symm
    have := h3.mp (by omega)
    omega
theorem WeI.step {T : Tb} (hT : VT T) {l : List Int} {k e : Nat} (h : WeI T l k e) (he : (e : Int) < T.ev) :
    WeI T (if 0 ≤ (T.at (l.getD k 0) e).1 then mtL T l (T.at (l.getD k 0) e).1 else l) k (e + 1) := by
  have hlt := h.lt
  have hg : l.getD k 0 = l[k] := by rw [List.getD_eq_getElem?_getD, List.getElem?_eq_getElem hlt]; rfl
  have hm := h.mem _ (List.getElem_mem hlt)
  have hkf := h.kf
  rw [hg] at hkf ⊢
  have hl := wRow_len hT hm
  have hlt2 : e < ((leastT T).rows.getD (kl T l[k]).toNat []).length := by omega
  rw [List.drop_eq_getElem_cons hlt2, wRow_at hT hm he hlt2] at hkf
  have hr := (order_ok hT).rng _ hm
  by_cases hn : 0 ≤ (T.at l[k] e).1
  · rw [if_pos hn] at hkf ⊢
    have hmem : (T.at l[k] e).1 ∈ orderT T := (order_ok hT).clo _ hm e (by omega) he hn
    obtain ⟨h1, h2, t, h3⟩ := h.toWaI.mt hT hmem (T.at l[k] e).2
    have hlt3 : k < (mtL T l (T.at l[k] e).1).length := by rw [h3]; simp; omega
    refine ⟨h1, hlt3, ?_⟩
    have hg2 : (mtL T l (T.at l[k] e).1).getD k 0 = l[k] := by
      rw [List.getD_eq_getElem?_getD, h3, List.getElem?_append_left hlt, List.getElem?_eq_getElem hlt]; rfl
    rw [hg2, h2]
    exact hkf
  · rw [if_neg hn] at hkf ⊢
    refine ⟨h.toWaI, hlt, ?_⟩
    rw [hg]
    have hs : kRow (T.at l[k] e :: ((leastT T).rows.getD (kl T l[k]).toNat []).drop (e + 1)) (l.map (kl T)) = kRow (((leastT T).rows.getD (kl T l[k]).toNat []).drop (e + 1)) (l.map (kl T)) := by
      show kRow _ (kStep (l.map (kl T)) (T.at l[k] e)) = _
      unfold kStep
      rw [if_neg (fun hc => hn hc.1)]
    rw [hs] at hkf
    exact hkf
theorem WeI.exit {T : Tb} (hT : VT T) {l : List Int} {k e : Nat} (h : WeI T l k e) (he : ¬ (e : Int) < T.ev) : WoI T l (k + 1) := by
  have hlt := h.lt
  have hg : l.getD k 0 = l[k] := by rw [List.getD_eq_getElem?_getD, List.getElem?_eq_getElem hlt]; rfl
  have hm := h.mem _ (List.getElem_mem hlt)
  have hkf := h.kf
  have hl := wRow_len hT hm
  rw [List.drop_eq_nil_of_le (by rw [hg]; omega)] at hkf
  exact ⟨h.toWaI, hkf, by omega, by omega⟩
/-- What the walk's list is at the end. -/
structure Rho (T : Tb) (l : List Int) : Prop where
  mem : ∀ s ∈ l, s ∈ orderT T
  eq : l.map (kl T) = iota (mems T).length
theorem WoI.rho {T : Tb} (hT : VT T) {l : List Int} {k : Nat} (h : WoI T l k) (hk : ¬ k < l.length) : Rho T l := ⟨h.mem, h.fin hT hk⟩
theorem Rho.len {T : Tb} {l : List Int} (h : Rho T l) : l.length = (mems T).length := by
  have := congrArg List.length h.eq
  simpa [iota_len] using this
theorem Rho.kl {T : Tb} {l : List Int} (h : Rho T l) (k : Nat) (hk : k < l.length) : kl T l[k] = (k : Int) := by
  have h1 : (l.map (Go.Proofs.Ytnggimkkjdipmaa.kl T))[k]? = (iota (mems T).length)[k]? := by rw [h.eq]
  rw [List.getElem?_map, List.getElem?_eq_getElem hk] at h1
  have h2 : (iota (mems T).length)[k]? = some (k : Int) := by unfold iota; simp [← h.len, hk]
  rw [h2] at h1
  simpa using h1
/-- Numbers: of each state that can be reached, that of its class. -/
def NuOk (T : Tb) (N : List Int) (s : Nat) (k : Nat) : Prop := N.length = T.st.toNat ∧ (∀ x ∈ N, -1 ≤ x ∧ x < (mems T).length) ∧ (∀ t : Nat, t < s → (t : Int) ∈ orderT T → gI N t = kl T t) ∧ ((s : Int) ∈ orderT T → kl T s < k → gI N s = kl T s)
theorem NuOk.start (T : Tb) : NuOk T (List.replicate T.st.toNat (-1)) 0 0 :=
  ⟨by simp, fun x hx => by have := List.eq_of_mem_replicate hx; omega, fun t ht => by omega, fun _ hk => by unfold kl at hk; omega⟩
theorem NuOk.next {T : Tb} (hT : VT T) {N : List Int} {s k : Nat} (h : NuOk T N s k) (hk : (mems T).length ≤ k) : NuOk T N (s + 1) 0 := by
  refine ⟨h.1, h.2.1, fun t ht hm => ?_, fun _ hk0 => by unfold kl at hk0; omega⟩
  by_cases e : t = s
  · subst e
    have := (kl_rel hT hm).2.1
    exact h.2.2.2 hm (by omega)
  · exact h.2.2.1 t (by omega) hm
theorem gI_set (N : List Int) (i j : Nat) (v : Int) (hi : i < N.length) : gI (N.set i v) j = if j = i then v else gI N j := by
  unfold gI
  rw [List.getD_eq_getElem?_getD, List.getD_eq_getElem?_getD, Int.toNat_natCast, List.getElem?_set]
  by_cases e : i = j
  · subst e; simp [hi]
  · rw [if_neg e, if_neg (fun h => e h.symm)]
theorem NuOk.yes {T : Tb} (hT : VT T) {l : List Int} (hR : Rho T l) {N : List Int} {s k : Nat} (h : NuOk T N s k) (hs : (s : Int) < T.st) (hk : k < l.length) (hn : ¬ Ap T T l[k] s) : NuOk T (N.set s (k : Int)) s (k + 1) := by
  have hm := hR.mem _ (List.getElem_mem hk)
  have hc : gI (classes T) l[k] = gI (classes T) s := Classical.byContradiction fun hc => hn ((ap_cls hT ((order_ok hT).rng _ hm) ⟨by omega, hs⟩).mpr hc)
  have e1 := hR.kl k hk
  have e2 : kl T s = (k : Int) := by rw [← e1]; exact ((kl_inj hT hm).mpr hc).symm
  have hl := hR.len
  have hsl : s < N.length := by rw [h.1]; omega
  refine ⟨by rw [List.length_set, h.1], fun x hx => ?_, fun t ht hmt => ?_, fun hms hlt => ?_⟩
  · rcases List.mem_or_eq_of_mem_set hx with hx | hx
    · exact h.2.1 x hx
    · subst hx; omega
  · rw [gI_set N s t _ hsl, if_neg (by omega)]; exact h.2.2.1 t ht hmt
  · rw [gI_set N s s _ hsl, if_pos rfl, e2]
theorem NuOk.no {T : Tb} (hT : VT T) {l : List Int} (hR : Rho T l) {N : List Int} {s k : Nat} (h : NuOk T N s k) (hs : (s : Int) < T.st) (hk : k < l.length) (hn : Ap T T l[k] s) : NuOk T N s (k + 1) := by
  have hm := hR.mem _ (List.getElem_mem hk)
  have hc := (ap_cls hT ((order_ok hT).rng _ hm) ⟨by omega, hs⟩).mp hn
  have e1 := hR.kl k hk
  refine ⟨h.1, h.2.1, h.2.2.1, fun hms hlt => h.2.2.2 hms ?_⟩
  by_cases e : kl T s = (k : Int)
  · exact absurd ((kl_inj hT hm).mp (by rw [e1, e])) hc
  · omega
/-- The rows that the reference makes are those of the least table. -/
def rlR (N : List Int) (r : Int × Int) : Int × Int := if 0 ≤ r.1 then (gI N r.1, r.2) else r
theorem rho_rows {T : Tb} (hT : VT T) {l N : List Int} (hR : Rho T l) (hN : NuOk T N T.st.toNat 0) : l.map (fun s => (T.rows.getD s.toNat []).map (rlR N)) = leastRows T := by
  have hl := hR.len
  apply List.ext_getElem
  · simp [leastRows, hl]
  · intro k h1 h2
    have hk : k < l.length := by simpa using h1
    have hm := hR.mem _ (List.getElem_mem hk)
    have hr := (order_ok hT).rng _ hm
    have e1 := hR.kl k hk
    have e2 : (leastRows T)[k] = (leastT T).rows.getD (kl T l[k]).toNat [] := by
      rw [e1, Int.toNat_natCast, List.getD_eq_getElem?_getD]
      show _ = ((leastRows T)[k]?).getD []
      rw [List.getElem?_eq_getElem h2]; rfl
    rw [e2, List.getElem_map]
    have hl1 := wRow_len hT hm
    have hl2 := (row_at hT hr).2.2
    apply List.ext_getElem
    · rw [List.length_map]; omega
    · intro e g1 g2
      have he : (e : Int) < T.ev := by omega
      have g3 : e < (T.rows.getD l[k].toNat []).length := by rw [List.length_map] at g1; exact g1
      rw [wRow_at hT hm he g2, List.getElem_map]
      have e3 : (T.rows.getD l[k].toNat [])[e] = T.at l[k] e := by
        unfold Tb.at
        rw [Int.toNat_natCast, List.getD_eq_getElem?_getD (i := e), List.getElem?_eq_getElem g3]; rfl
      rw [e3]
      unfold rlR
      by_cases hn : 0 ≤ (T.at l[k] e).1
      · rw [if_pos hn, if_pos hn]
        have hmem : (T.at l[k] e).1 ∈ orderT T := (order_ok hT).clo _ hm e (by omega) he hn
        have hr2 := (order_ok hT).rng _ hmem
        have := hN.2.2.1 (T.at l[k] e).1.toNat (by omega) (by rw [Int.toNat_of_nonneg hn]; exact hmem)
        rw [Int.toNat_of_nonneg hn] at this
        rw [this]
      · rw [if_neg hn, if_neg hn]
end Go.Proofs.Ytnggimkkjdipmaa
