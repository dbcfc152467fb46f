import Derived.Test.YtkfkkglodjehpaaTD13
namespace Go.Proofs.Ytkfkkglodjehpaa
open Go.RowKit
set_option linter.unusedVariables false
set_option linter.unusedSimpArgs false
/-! ### How long a shortest word is: both tables as one, and its classes -/
theorem diffR_false {x y : Int × Int} : diffR x y = false ↔ (x.1 < 0 ↔ y.1 < 0) ∧ x.2 = y.2 := by
  unfold diffR
  simp only [Bool.or_eq_false_iff, bne_eq_false_iff_eq, decide_eq_decide]
/-- A machine, as a map: n states, ev events. -/
structure Mach where
  n : Nat
  ev : Int
  at_ : Int → Int → Int × Int
  rng : ∀ s e : Int, 0 ≤ s → s < n → 0 ≤ e → e < ev → (at_ s e).1 < n
/-- Not told apart by so many events. -/
def Mach.Eq (C : Mach) : Nat → Int → Int → Prop
  | 0, _, _ => True
  | m + 1, s, t => ∀ e : Int, 0 ≤ e → e < C.ev → diffR (C.at_ s e) (C.at_ t e) = false ∧ (0 ≤ (C.at_ s e).1 → C.Eq m (C.at_ s e).1 (C.at_ t e).1)
theorem Mach.Eq.refl (C : Mach) : ∀ (m : Nat) (s : Int), C.Eq m s s
  | 0, s => trivial
  | m + 1, s => fun e h0 h1 => ⟨diffR_false.mpr ⟨Iff.rfl, rfl⟩, fun _ => Mach.Eq.refl C m _⟩
theorem Mach.Eq.symm (C : Mach) : ∀ (m : Nat) (s t : Int), C.Eq m s t → C.Eq m t s
  | 0, _, _, _ => trivial
  | m + 1, s, t, h => fun e h0 h1 => by
    obtain ⟨h2, h3⟩ := h e h0 h1
    have h4 := diffR_false.mp h2
    exact ⟨diffR_false.mpr ⟨h4.1.symm, h4.2.symm⟩, fun hn => Mach.Eq.symm C m _ _ (h3 (by have := h4.1; omega))⟩
theorem Mach.Eq.trans (C : Mach) : ∀ (m : Nat) (s t u : Int), C.Eq m s t → C.Eq m t u → C.Eq m s u
  | 0, _, _, _, _, _ => trivial
  | m + 1, s, t, u, h, k => fun e h0 h1 => by
    obtain ⟨h2, h3⟩ := h e h0 h1
    obtain ⟨k2, k3⟩ := k e h0 h1
    have h4 := diffR_false.mp h2
    have k4 := diffR_false.mp k2
    exact ⟨diffR_false.mpr ⟨h4.1.trans k4.1, h4.2.trans k4.2⟩, fun hn => Mach.Eq.trans C m _ _ _ (h3 hn) (k3 (by have := h4.1; omega))⟩
theorem Mach.Eq.down (C : Mach) : ∀ (m : Nat) (s t : Int), C.Eq (m + 1) s t → C.Eq m s t
  | 0, _, _, _ => trivial
  | m + 1, s, t, h => fun e h0 h1 => by
    obtain ⟨h2, h3⟩ := h e h0 h1
    exact ⟨h2, fun hn => Mach.Eq.down C m _ _ (h3 hn)⟩
theorem Mach.Eq.le (C : Mach) {m k : Nat} (hk : m ≤ k) {s t : Int} (h : C.Eq k s t) : C.Eq m s t := by
  obtain ⟨d, rfl⟩ : ∃ d, k = m + d := ⟨k - m, by omega⟩
  clear hk
  induction d with
  | zero => exact h
  | succ d ih => exact ih (Mach.Eq.down C _ _ _ h)
def Mach.In (C : Mach) (s : Int) : Prop := 0 ≤ s ∧ s < C.n
/-- Once nothing is parted, nothing is parted ever after. -/
theorem Mach.stable (C : Mach) (m : Nat) (hs : ∀ s t, C.In s → C.In t → C.Eq m s t → C.Eq (m + 1) s t) : ∀ k s t, C.In s → C.In t → C.Eq m s t → C.Eq (m + k) s t
  | 0, s, t, _, _, h => h
  | k + 1, s, t, h1, h2, h => by
    have ih := Mach.stable C m hs k
    intro e h0 h3
    obtain ⟨g1, g2⟩ := hs s t h1 h2 h e h0 h3
    have g3 := diffR_false.mp g1
    refine ⟨g1, fun hn => ?_⟩
    have r1 := C.rng s e h1.1 h1.2 h0 h3
    have r2 := C.rng t e h2.1 h2.2 h0 h3
    exact ih _ _ ⟨hn, r1⟩ ⟨by have := g3.1; omega, r2⟩ (g2 hn)
theorem countP_less {α : Type} (p q : α → Bool) : ∀ (l : List α) (x : α), (∀ y ∈ l, q y = true → p y = true) → x ∈ l → p x = true → q x = false → l.countP q < l.countP p
  | y :: l, x, h, hx, hp, hq => by
    rw [List.countP_cons, List.countP_cons]
    have hle : l.countP q ≤ l.countP p := List.countP_mono_left (fun z hz hqz => h z (by simp [hz]) hqz)
    rcases List.mem_cons.mp hx with rfl | hx
    · simp [hp, hq]; omega
    · have := countP_less p q l x (fun z hz => h z (by simp [hz])) hx hp hq
      by_cases hqy : q y = true
      · simp [hqy, h y (by simp) hqy]; omega
      · simp [hqy]; omega
section
open Classical
/-- The states that stand first in their class. -/
noncomputable def Mach.rep (C : Mach) (m : Nat) (s : Nat) : Bool := decide (∀ t : Nat, t < s → ¬ C.Eq m t s)
noncomputable def Mach.num (C : Mach) (m : Nat) : Nat := (List.range C.n).countP (C.rep m)
theorem Mach.rep_up (C : Mach) (m s : Nat) (h : C.rep m s = true) : C.rep (m + 1) s = true := by
  unfold Mach.rep at h ⊢
  simp only [decide_eq_true_eq] at h ⊢
  exact fun t ht he => h t ht (Mach.Eq.down C _ _ _ he)
theorem Mach.has_rep (C : Mach) (m : Nat) : ∀ s : Nat, s < C.n → ∃ r : Nat, r ≤ s ∧ C.rep m r = true ∧ C.Eq m r s := by
  intro s
  induction s using Nat.strongRecOn with
  | _ s ih =>
    intro hs
    by_cases h : ∀ t : Nat, t < s → ¬ C.Eq m t s
    · exact ⟨s, Nat.le_refl _, by unfold Mach.rep; simpa using h, Mach.Eq.refl C m s⟩
    · have h' : ∃ t : Nat, t < s ∧ C.Eq m t s := Classical.byContradiction fun hc => h fun t ht he => hc ⟨t, ht, he⟩
      obtain ⟨t, ht, he⟩ := h'
      obtain ⟨r, h1, h2, h3⟩ := ih t ht (by omega)
      exact ⟨r, by omega, h2, Mach.Eq.trans C m _ _ _ h3 he⟩
theorem Mach.more (C : Mach) (m : Nat) (h : ¬ ∀ s t, C.In s → C.In t → C.Eq m s t → C.Eq (m + 1) s t) : C.num m < C.num (m + 1) := by
  by_cases hx : ∃ r : Nat, r < C.n ∧ C.rep (m + 1) r = true ∧ C.rep m r = false
  · obtain ⟨r, h1, h2, h3⟩ := hx
    exact countP_less _ _ _ r (fun y _ hy => C.rep_up m y hy) (List.mem_range.mpr h1) h2 h3
  · refine absurd (fun s t hs ht he => ?_) h
    obtain ⟨s', rfl⟩ : ∃ k : Nat, s = k := ⟨s.toNat, by have := hs.1; omega⟩
    obtain ⟨t', rfl⟩ : ∃ k : Nat, t = k := ⟨t.toNat, by have := ht.1; omega⟩
    have hsn : s' < C.n := by have := hs.2; omega
    have htn : t' < C.n := by have := ht.2; omega
    have key : ∀ r : Nat, r < C.n → C.rep (m + 1) r = true → C.rep m r = true := fun r hr h2 => by
      cases h3 : C.rep m r with
      | true => rfl
      | false => exact absurd ⟨r, hr, h2, h3⟩ hx
    obtain ⟨r, h1, h2, h3⟩ := C.has_rep (m + 1) s' hsn
    obtain ⟨r', g1, g2, g3⟩ := C.has_rep (m + 1) t' htn
    have h4 := key r (by omega) h2
    have g4 := key r' (by omega) g2
    have hrr : C.Eq m r r' := Mach.Eq.trans C m _ _ _ (Mach.Eq.down C _ _ _ h3) (Mach.Eq.trans C m _ _ _ he (Mach.Eq.symm C m _ _ (Mach.Eq.down C _ _ _ g3)))
    have heq : r = r' := by
      unfold Mach.rep at h4 g4
      simp only [decide_eq_true_eq] at h4 g4
      by_cases hlt : r < r'
      · exact absurd hrr (g4 r hlt)
      · by_cases hgt : r' < r
        · exact absurd (Mach.Eq.symm C m _ _ hrr) (h4 r' hgt)
        · omega
    subst heq
    exact Mach.Eq.trans C _ _ _ _ (Mach.Eq.symm C _ _ _ h3) g3
theorem Mach.settles (C : Mach) : ∃ m, m ≤ C.n ∧ ∀ s t, C.In s → C.In t → C.Eq m s t → C.Eq (m + 1) s t := by
  refine Classical.byContradiction fun hc => ?_
  have hm : ∀ m, m ≤ C.n → C.num m < C.num (m + 1) := fun m hm => C.more m fun h => hc ⟨m, hm, h⟩
  have hle : ∀ m, m ≤ C.n + 1 → m ≤ C.num m := by
    intro m
    induction m with
    | zero => intro _; omega
    | succ m ih => intro h; have := hm m (by omega); have := ih (by omega); omega
  have h1 := hle (C.n + 1) (Nat.le_refl _)
  have h2 : C.num (C.n + 1) ≤ C.n := by
    have := List.countP_le_length (p := C.rep (C.n + 1)) (l := List.range C.n)
    simpa [Mach.num] using this
  omega
end
/-- What so many events as there are states do not tell apart nothing does. -/
theorem Mach.bound (C : Mach) {s t : Int} (hs : C.In s) (ht : C.In t) (h : C.Eq C.n s t) (k : Nat) : C.Eq k s t := by
  obtain ⟨m, hm, hst⟩ := C.settles
  have h1 := Mach.Eq.le C hm h
  have h2 := C.stable m hst k s t hs ht h1
  exact Mach.Eq.le C (by omega) h2
/-- Both tables as one. -/
def shiftR (n : Int) (r : Int × Int) : Int × Int := if r.1 < 0 then r else (r.1 + n, r.2)
theorem shift_diff (n : Int) (hn : 0 ≤ n) (x y : Int × Int) : diffR x (shiftR n y) = diffR x y := by
  have key : diffR x (shiftR n y) = false ↔ diffR x y = false := by
    rw [diffR_false, diffR_false]
    unfold shiftR
    split <;> (try dsimp only) <;> omega
  cases h1 : diffR x (shiftR n y) <;> cases h2 : diffR x y <;> simp_all
def both (T U : Tb) (hT : VT T) (hU : VT U) (hev : T.ev = U.ev) : Mach where
  n := (T.st + U.st).toNat
  ev := T.ev
  at_ := fun s e => if s < T.st then T.at s e else shiftR T.st (U.at (s - T.st) e)
  rng := fun s e h0 h1 h2 h3 => by
    have hst := hT.st
    have hsu := hU.st
    split
    · have := hT.atOk h0 ‹_› h2 h3; omega
    · have := hU.atOk (s := s - T.st) (e := e) (by omega) (by omega) h2 (by omega)
      unfold shiftR
      split
      · omega
      · dsimp only; omega
theorem both_near {T U : Tb} (hT : VT T) (hU : VT U) (hev : T.ev = U.ev) : ∀ (m : Nat) (a b : Int), 0 ≤ a ∧ a < T.st → 0 ≤ b ∧ b < U.st → ((both T U hT hU hev).Eq m a (T.st + b) ↔ ¬ Near T U m a b)
  | 0, a, b, _, _ => ⟨fun _ h => h, fun _ => trivial⟩
  | m + 1, a, b, ha, hb => by
    have hst := hT.st
    have e1 : ∀ e, (both T U hT hU hev).at_ a e = T.at a e := fun e => by show (if a < T.st then _ else _) = _; rw [if_pos ha.2]
    have e2 : ∀ e, (both T U hT hU hev).at_ (T.st + b) e = shiftR T.st (U.at b e) := fun e => by
      show (if T.st + b < T.st then _ else _) = _
      rw [if_neg (by omega), show T.st + b - T.st = b by omega]
    constructor
    · rintro h ⟨e, h0, h1, h2⟩
      obtain ⟨g1, g2⟩ := h e h0 h1
      rw [e1, e2, shift_diff _ (by omega)] at g1
      rcases h2 with h2 | ⟨h2, h3, h4⟩
      · rw [g1] at h2; cases h2
      · rw [e1, e2] at g2
        have g3 := g2 h2
        have r1 := hT.atOk ha.1 ha.2 h0 h1
        have r2 := hU.atOk hb.1 hb.2 h0 (by omega)
        have e3 : (shiftR T.st (U.at b e)).1 = T.st + (U.at b e).1 := by unfold shiftR; rw [if_neg (by omega)]; dsimp only; omega
        rw [e3] at g3
        exact (both_near hT hU hev m _ _ ⟨h2, r1.2.1⟩ ⟨h3, r2.2.1⟩).mp g3 h4
    · intro h e h0 h1
      have r1 := hT.atOk ha.1 ha.2 h0 h1
      have r2 := hU.atOk hb.1 hb.2 h0 (by have : e < T.ev := h1; omega)
      rw [e1, e2, shift_diff _ (by omega)]
      have g1 : diffR (T.at a e) (U.at b e) = false := by
        cases hd : diffR (T.at a e) (U.at b e) with
        | false => rfl
        | true => exact absurd ⟨e, h0, h1, .inl hd⟩ h
      refine ⟨g1, fun hn => ?_⟩
      have g2 := (diffR_false.mp g1).1
      have e3 : (shiftR T.st (U.at b e)).1 = T.st + (U.at b e).1 := by unfold shiftR; rw [if_neg (by omega)]; dsimp only; omega
      rw [e3]
      exact (both_near hT hU hev m _ _ ⟨hn, r1.2.1⟩ ⟨by omega, r2.2.1⟩).mpr fun hc => h ⟨e, h0, h1, .inr ⟨hn, by omega, hc⟩⟩
theorem near_bound {T U : Tb} (hT : VT T) (hU : VT U) (hev : T.ev = U.ev) {a b : Int} (ha : 0 ≤ a ∧ a < T.st) (hb : 0 ≤ b ∧ b < U.st) {k : Nat} (h : Near T U k a b) : Near T U 60 a b := by
  refine Classical.byContradiction fun hc => ?_
  have hst := hT.st
  have hsu := hU.st
  have h1 := (both_near hT hU hev 60 a b ha hb).mpr hc
  have hn : (both T U hT hU hev).n = (T.st + U.st).toNat := rfl
  have h2 := Mach.Eq.le (both T U hT hU hev) (m := (both T U hT hU hev).n) (by rw [hn]; omega) h1
  have h3 := Mach.bound (both T U hT hU hev) (s := a) (t := T.st + b) ⟨ha.1, by rw [hn]; omega⟩ ⟨by omega, by rw [hn]; omega⟩ h2 k
  exact (both_near hT hU hev k a b ha hb).mp h3 h
theorem differT_words {T U : Tb} (hT : VT T) (hU : VT U) (hev : T.ev = U.ev) {a b : Int} (ha : 0 ≤ a ∧ a < T.st) (hb : 0 ≤ b ∧ b < U.st) (w : List Int) (h : differT T U a b = some w) : Dist T U a b w ∧ w.length ≤ 60 := by
  obtain ⟨h1, h2⟩ := differT_short hT hU hev ha hb w h
  obtain ⟨k, hk⟩ := near_of_ap ((differT_law hT hU hev ha hb).mp (by rw [h]; rfl))
  exact ⟨h1, h2 60 (near_bound hT hU hev ha hb hk)⟩
end Go.Proofs.Ytkfkkglodjehpaa
