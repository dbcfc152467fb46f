import Derived.Test.YtehmfnpiidcbpaaLib
namespace Go.Proofs.Ytehmfnpiidcbpaa
set_option linter.unusedVariables false
set_option linter.unusedSimpArgs false
/-! ### Sets of numbers as ranges, plain -/
abbrev Rg := Int × Int
/-- x lies in one of the ranges. -/
def inS (s : List Rg) (x : Int) : Prop := ∃ r ∈ s, r.1 ≤ x ∧ x ≤ r.2
theorem inS_nil (x : Int) : ¬ inS [] x := by rintro ⟨r, h, _⟩; cases h
theorem inS_cons (r : Rg) (s : List Rg) (x : Int) : inS (r :: s) x ↔ (r.1 ≤ x ∧ x ≤ r.2) ∨ inS s x := by
  unfold inS
  constructor
  · rintro ⟨q, hq, h⟩
    rcases List.mem_cons.1 hq with rfl | hq
    · exact .inl h
    · exact .inr ⟨q, hq, h⟩
  · rintro (h | ⟨q, hq, h⟩)
    · exact ⟨r, by simp, h⟩
    · exact ⟨q, by simp [hq], h⟩
theorem inS_app (s t : List Rg) (x : Int) : inS (s ++ t) x ↔ inS s x ∨ inS t x := by
  induction s with
  | nil => simp [inS_nil]
  | cons r s ih => rw [List.cons_append, inS_cons, inS_cons, ih, or_assoc]
theorem inS_perm {s t : List Rg} (h : s.Perm t) (x : Int) : inS s x ↔ inS t x := by
  unfold inS
  constructor
  · rintro ⟨r, hr, h2⟩; exact ⟨r, h.mem_iff.1 hr, h2⟩
  · rintro ⟨r, hr, h2⟩; exact ⟨r, h.mem_iff.2 hr, h2⟩
/-- Ranges, ascending, with room between them. -/
def Nf (s : List Rg) : Prop := (∀ r ∈ s, r.1 ≤ r.2) ∧ s.Pairwise fun a b => a.2 + 2 ≤ b.1
theorem Nf.nil : Nf [] := ⟨by simp, List.Pairwise.nil⟩
theorem Nf.tail {r : Rg} {s : List Rg} (h : Nf (r :: s)) : Nf s := ⟨fun q hq => h.1 q (by simp [hq]), (List.pairwise_cons.1 h.2).2⟩
theorem Nf.above {r : Rg} {s : List Rg} (h : Nf (r :: s)) {x : Int} (hx : inS s x) : r.2 + 2 ≤ x := by
  obtain ⟨q, hq, h1, _⟩ := hx
  have := (List.pairwise_cons.1 h.2).1 q hq
  omega
theorem Nf.cons {r : Rg} {s : List Rg} (h1 : r.1 ≤ r.2) (h2 : Nf s) (h3 : ∀ x, inS s x → r.2 + 2 ≤ x) : Nf (r :: s) :=
  ⟨fun q hq => by
    rcases List.mem_cons.1 hq with rfl | hq
    · exact h1
    · exact h2.1 q hq, List.pairwise_cons.2 ⟨fun q hq => h3 q.1 ⟨q, hq, Int.le_refl _, h2.1 q hq⟩, h2.2⟩⟩
/-- Two lists of the same numbers are one. -/
theorem Nf.ext : ∀ {s t : List Rg}, Nf s → Nf t → (∀ x, inS s x ↔ inS t x) → s = t
  | [], [], _, _, _ => rfl
  | [], q :: t, _, ht, h => absurd ((h q.1).2 ⟨q, by simp, Int.le_refl _, ht.1 q (by simp)⟩) (inS_nil _)
  | r :: s, [], hs, _, h => absurd ((h r.1).1 ⟨r, by simp, Int.le_refl _, hs.1 r (by simp)⟩) (inS_nil _)
  | r :: s, q :: t, hs, ht, h => by
    have hr := hs.1 r (by simp)
    have hq := ht.1 q (by simp)
    have abv := fun x => @Nf.above r s hs x
    have at' := fun x => @Nf.above q t ht x
    have e1 : r.1 = q.1 := by
      have h1 := (inS_cons _ _ _).1 ((h r.1).1 ((inS_cons _ _ _).2 (.inl ⟨Int.le_refl _, hr⟩)))
      have h2 := (inS_cons _ _ _).1 ((h q.1).2 ((inS_cons _ _ _).2 (.inl ⟨Int.le_refl _, hq⟩)))
      rcases h1 with h1 | h1 <;> rcases h2 with h2 | h2
      · omega
      · have := abv _ h2; omega
      · have := at' _ h1; omega
      · have := abv _ h2; have := at' _ h1; omega
    have e2 : r.2 = q.2 := by
      rcases Int.lt_trichotomy r.2 q.2 with hl | hl | hl
      · have h2 := (inS_cons _ _ _).1 ((h (r.2 + 1)).2 ((inS_cons _ _ _).2 (.inl ⟨by omega, by omega⟩)))
        rcases h2 with h2 | h2
        · omega
        · have := abv _ h2; omega
      · exact hl
      · have h2 := (inS_cons _ _ _).1 ((h (q.2 + 1)).1 ((inS_cons _ _ _).2 (.inl ⟨by omega, by omega⟩)))
        rcases h2 with h2 | h2
        · omega
        · have := at' _ h2; omega
    have e : r = q := Prod.ext e1 e2
    subst e
    rw [Nf.ext hs.tail ht.tail fun x => ?_]
    constructor
    · intro hx
      have hb := abv _ hx
      rcases (inS_cons _ _ _).1 ((h x).1 ((inS_cons _ _ _).2 (.inr hx))) with h2 | h2
      · omega
      · exact h2
    · intro hx
      have hb := at' _ hx
      rcases (inS_cons _ _ _).1 ((h x).2 ((inS_cons _ _ _).2 (.inr hx))) with h2 | h2
      · omega
      · exact h2
/-! #### What a set is -/
def MI : Int := 1000000000000000
def okAt (s : List Rg) (i : Nat) : Prop := (s.getD i (0, 0)).1 ≤ (s.getD i (0, 0)).2 ∧ -1000000000000000 ≤ (s.getD i (0, 0)).1 ∧ (s.getD i (0, 0)).2 ≤ 1000000000000000 ∧ (0 < i → (s.getD (i - 1) (0, 0)).2 + 2 ≤ (s.getD i (0, 0)).1)
instance (s : List Rg) (i : Nat) : Decidable (okAt s i) := by unfold okAt; infer_instance
def okAll (s : List Rg) : Prop := ∀ i, i < s.length → okAt s i
instance (s : List Rg) : Decidable (okAll s) := by unfold okAll; infer_instance
def valS (s : List Rg) : Bool := decide (okAll s ∧ s.length ≤ 100)
/-- In bounds. -/
def Bd (s : List Rg) : Prop := ∀ x, inS s x → -1000000000000000 ≤ x ∧ x ≤ 1000000000000000
theorem okAll_nf {s : List Rg} (h : okAll s) : Nf s ∧ Bd s := by
  have hg : ∀ i (hi : i < s.length), s.getD i (0, 0) = s[i] := fun i hi => by rw [List.getD_eq_getElem?_getD, List.getElem?_eq_getElem hi]; rfl
  have h1 : ∀ r ∈ s, r.1 ≤ r.2 ∧ -1000000000000000 ≤ r.1 ∧ r.2 ≤ 1000000000000000 := fun r hr => by
    obtain ⟨i, hi, rfl⟩ := List.getElem_of_mem hr
    obtain ⟨a, b, c, _⟩ := h i hi
    rw [hg i hi] at a b c
    exact ⟨a, b, c⟩
  refine ⟨⟨fun r hr => (h1 r hr).1, ?_⟩, ?_⟩
  · rw [List.pairwise_iff_getElem]
    have key : ∀ (d i : Nat) (hi : i < s.length) (hj : i + d + 1 < s.length), s[i].2 + 2 ≤ s[i + d + 1].1 := by
      intro d
      induction d with
      | zero =>
        intro i hi hj
        have := (h (i + 1) hj).2.2.2 (by omega)
        rw [hg _ hj, show i + 1 - 1 = i by omega, hg _ hi] at this
        exact this
      | succ d ih =>
        intro i hi hj
        have a := ih i hi (by omega)
        have b := (h (i + d + 1 + 1) hj).2.2.2 (by omega)
        have c := (h1 _ (List.getElem_mem (show i + d + 1 < s.length by omega))).1
        have g1 := hg (i + d + 1 + 1) (by omega)
        have g2 := hg (i + d + 1) (by omega)
        rw [show i + d + 1 + 1 - 1 = i + d + 1 by omega, g1, g2] at b
        show s[i].2 + 2 ≤ s[i + d + 1 + 1].1
        omega
    intro i j hi hj hij
    have := key (j - i - 1) i hi (by omega)
    have e : s[i + (j - i - 1) + 1]'(by omega) = s[j] := by congr 1; omega
    rw [e] at this
    exact this
  · rintro x ⟨r, hr, h2, h3⟩
    have := h1 r hr
    omega
theorem nf_okAll {s : List Rg} (h : Nf s) (hb : Bd s) : okAll s := by
  have hg : ∀ i (hi : i < s.length), s.getD i (0, 0) = s[i] := fun i hi => by rw [List.getD_eq_getElem?_getD, List.getElem?_eq_getElem hi]; rfl
  intro i hi
  have hm := List.getElem_mem hi
  have a := h.1 _ hm
  have b := hb s[i].1 ⟨_, hm, Int.le_refl _, a⟩
  have c := hb s[i].2 ⟨_, hm, a, Int.le_refl _⟩
  refine ⟨?_, ?_, ?_, fun h0 => ?_⟩
  · rw [hg i hi]; exact a
  · rw [hg i hi]; exact b.1
  · rw [hg i hi]; exact c.2
  · rw [hg i hi, hg (i - 1) (by omega)]
    exact List.pairwise_iff_getElem.1 h.2 (i - 1) i (by omega) hi (by omega)
theorem valS_iff (s : List Rg) : valS s = true ↔ Nf s ∧ Bd s ∧ s.length ≤ 100 := by
  unfold valS
  rw [decide_eq_true_iff]
  constructor
  · rintro ⟨h, h2⟩; exact ⟨(okAll_nf h).1, (okAll_nf h).2, h2⟩
  · rintro ⟨h, h2, h3⟩; exact ⟨nf_okAll h h2, h3⟩
/-! #### tidy -/
def tidF (c : Rg) : List Rg → List Rg
  | [] => [c]
  | r :: t => if r.1 ≤ c.2 + 1 then tidF (c.1, max c.2 r.2) t else c :: tidF r t
def tidyF : List Rg → List Rg
  | [] => []
  | c :: t => tidF c t
theorem tidF_law : ∀ (t : List Rg) (c : Rg), c.1 ≤ c.2 → (∀ r ∈ t, r.1 ≤ r.2 ∧ c.1 ≤ r.1) → t.Pairwise (fun a b => a.1 ≤ b.1) → Nf (tidF c t) ∧ (∀ x, inS (tidF c t) x ↔ (c.1 ≤ x ∧ x ≤ c.2) ∨ inS t x)
  | [], c, hc, _, _ => by
    refine ⟨⟨by simpa [tidF] using hc, by simp [tidF]⟩, fun x => ?_⟩
    simp only [tidF, inS_cons]
  | r :: t, c, hc, hr, hp => by
    obtain ⟨hp1, hp2⟩ := List.pairwise_cons.1 hp
    have hr0 := hr r (by simp)
    unfold tidF
    split
    · rename_i hle
      obtain ⟨h1, h2⟩ := tidF_law t (c.1, max c.2 r.2) (by dsimp only; omega) (fun q hq => ⟨(hr q (by simp [hq])).1, (hr q (by simp [hq])).2⟩) hp2
      refine ⟨h1, fun x => ?_⟩
      rw [h2, inS_cons]
      dsimp only
      constructor
      · rintro (h | h)
        · by_cases hx : x ≤ c.2
          · exact .inl ⟨h.1, hx⟩
          · exact .inr (.inl ⟨by omega, by omega⟩)
        · exact .inr (.inr h)
      · rintro (h | h | h)
        · exact .inl ⟨h.1, by omega⟩
        · exact .inl ⟨by omega, by omega⟩
        · exact .inr h
    · rename_i hle
      obtain ⟨h1, h2⟩ := tidF_law t r hr0.1 (fun q hq => ⟨(hr q (by simp [hq])).1, hp1 q hq⟩) hp2
      have hall : ∀ x, inS (tidF r t) x → r.1 ≤ x := fun x hx => by
        rcases (h2 x).1 hx with h | ⟨q, hq, h, _⟩
        · exact h.1
        · have := hp1 q hq; omega
      refine ⟨Nf.cons hc h1 fun x hx => by have := hall x hx; omega, fun x => ?_⟩
      rw [inS_cons, h2, inS_cons]
theorem tidyF_law (t : List Rg) (hr : ∀ r ∈ t, r.1 ≤ r.2) (hp : t.Pairwise (fun a b => a.1 ≤ b.1)) : Nf (tidyF t) ∧ ∀ x, inS (tidyF t) x ↔ inS t x := by
  cases t with
  | nil => exact ⟨Nf.nil, fun x => Iff.rfl⟩
  | cons c t =>
    obtain ⟨hp1, hp2⟩ := List.pairwise_cons.1 hp
    obtain ⟨h1, h2⟩ := tidF_law t c (hr c (by simp)) (fun r h => ⟨hr r (by simp [h]), hp1 r h⟩) hp2
    exact ⟨h1, fun x => by show inS (tidF c t) x ↔ _; rw [h2, inS_cons]⟩
/-! #### common -/
def comF : Nat → List Rg → List Rg → List Rg
  | 0, _, _ => []
  | _, [], _ => []
  | _, _, [] => []
  | n + 1, p :: s, q :: t => (if max p.1 q.1 ≤ min p.2 q.2 then [(max p.1 q.1, min p.2 q.2)] else []) ++ if p.2 < q.2 then comF n s (q :: t) else comF n (p :: s) t
theorem comF_nil (n : Nat) (s : List Rg) : comF n [] s = [] := by cases n <;> rfl
theorem comF_nil2 (n : Nat) (s : List Rg) : comF n s [] = [] := by cases n <;> cases s <;> rfl
theorem comF_law : ∀ (n : Nat) (s t : List Rg), s.length + t.length ≤ n → Nf s → Nf t → Nf (comF n s t) ∧ ∀ x, inS (comF n s t) x ↔ inS s x ∧ inS t x
  | 0, s, t, hn, _, _ => by
    have : s = [] := List.eq_nil_of_length_eq_zero (by omega)
    subst this
    exact ⟨Nf.nil, fun x => by simp [comF, inS_nil]⟩
  | n + 1, [], t, _, _, _ => by rw [comF_nil]; exact ⟨Nf.nil, fun x => by simp [inS_nil]⟩
  | n + 1, p :: s, [], _, _, _ => by rw [comF_nil2]; exact ⟨Nf.nil, fun x => by simp [inS_nil]⟩
  | n + 1, p :: s, q :: t, hn, hs, ht => by
    have hp := hs.1 p (by simp)
    have hq := ht.1 q (by simp)
    have abv := fun x => @Nf.above p s hs x
    have at' := fun x => @Nf.above q t ht x
    simp only [List.length_cons] at hn
    unfold comF
    -- the rest
    have rest : ∃ R, (if p.2 < q.2 then comF n s (q :: t) else comF n (p :: s) t) = R ∧ Nf R ∧ (∀ x, inS R x → min p.2 q.2 + 2 ≤ x) ∧ ∀ x, (inS R x ∨ (max p.1 q.1 ≤ x ∧ x ≤ min p.2 q.2)) ↔ inS (p :: s) x ∧ inS (q :: t) x := by
      refine ⟨_, rfl, ?_⟩
      split
      · rename_i hlt
        obtain ⟨h1, h2⟩ := comF_law n s (q :: t) (by simp only [List.length_cons]; omega) hs.tail ht
        refine ⟨h1, fun x hx => by have := abv x ((h2 x).1 hx).1; omega, fun x => ?_⟩
        rw [h2, inS_cons p]
        constructor
        · rintro (⟨h3, h4⟩ | h3)
          · exact ⟨.inr h3, h4⟩
          · exact ⟨.inl ⟨by omega, by omega⟩, (inS_cons _ _ _).2 (.inl ⟨by omega, by omega⟩)⟩
        · rintro ⟨h3 | h3, h4⟩
          · rcases (inS_cons _ _ _).1 h4 with h5 | h5
            · exact .inr ⟨by omega, by omega⟩
            · have := at' x h5; omega
          · exact .inl ⟨h3, h4⟩
      · rename_i hlt
        obtain ⟨h1, h2⟩ := comF_law n (p :: s) t (by simp only [List.length_cons]; omega) hs ht.tail
        refine ⟨h1, fun x hx => by have := at' x ((h2 x).1 hx).2; omega, fun x => ?_⟩
        rw [h2, inS_cons q]
        constructor
        · rintro (⟨h3, h4⟩ | h3)
          · exact ⟨h3, .inr h4⟩
          · exact ⟨(inS_cons _ _ _).2 (.inl ⟨by omega, by omega⟩), .inl ⟨by omega, by omega⟩⟩
        · rintro ⟨h3, h4 | h4⟩
          · rcases (inS_cons _ _ _).1 h3 with h5 | h5
            · exact .inr ⟨by omega, by omega⟩
            · have := abv x h5; omega
          · exact .inl ⟨h3, h4⟩
    obtain ⟨R, hR, h1, h2, h3⟩ := rest
    rw [hR]
    split
    · rename_i hle
      refine ⟨Nf.cons hle h1 h2, fun x => ?_⟩
      rw [List.singleton_append, inS_cons, ← h3, or_comm]
    · rename_i hle
      refine ⟨h1, fun x => ?_⟩
      rw [List.nil_append, ← h3]
      constructor
      · exact .inl
      · rintro (h | h)
        · exact h
        · omega
/-! #### outside -/
def outF (lo : Int) : List Rg → List Rg
  | [] => if lo ≤ 1000000000000000 then [(lo, 1000000000000000)] else []
  | r :: t => (if lo < r.1 then [(lo, r.1 - 1)] else []) ++ outF (r.2 + 1) t
theorem outF_law : ∀ (s : List Rg) (lo : Int), Nf s → (∀ x, inS s x → lo ≤ x ∧ x ≤ 1000000000000000) → Nf (outF lo s) ∧ ∀ x, inS (outF lo s) x ↔ lo ≤ x ∧ x ≤ 1000000000000000 ∧ ¬ inS s x
  | [], lo, _, _ => by
    unfold outF
    split
    · rename_i h
      exact ⟨⟨by simpa using h, by simp⟩, fun x => by rw [inS_cons]; simp [inS_nil]⟩
    · rename_i h
      exact ⟨Nf.nil, fun x => by simp only [inS_nil, false_iff]; omega⟩
  | r :: t, lo, hs, hb => by
    have hr := hs.1 r (by simp)
    have abv := fun x => @Nf.above r t hs x
    have b1 := hb r.1 ((inS_cons _ _ _).2 (.inl ⟨Int.le_refl _, hr⟩))
    have b2 := hb r.2 ((inS_cons _ _ _).2 (.inl ⟨hr, Int.le_refl _⟩))
    obtain ⟨h1, h2⟩ := outF_law t (r.2 + 1) hs.tail fun x hx => ⟨by have := abv x hx; omega, (hb x ((inS_cons _ _ _).2 (.inr hx))).2⟩
    have key : ∀ x, inS (outF lo (r :: t)) x ↔ lo ≤ x ∧ x ≤ 1000000000000000 ∧ ¬ inS (r :: t) x := fun x => by
      unfold outF
      rw [inS_app, h2, inS_cons r]
      constructor
      · rintro (h3 | ⟨h3, h4, h5⟩)
        · split at h3
          · rcases (inS_cons _ _ _).1 h3 with h4 | h4
            · refine ⟨h4.1, by dsimp only at h4; omega, ?_⟩
              rintro (h5 | h5)
              · dsimp only at h4; omega
              · have := abv x h5; dsimp only at h4; omega
            · exact absurd h4 (inS_nil _)
          · exact absurd h3 (inS_nil _)
        · refine ⟨by omega, h4, ?_⟩
          rintro (h6 | h6)
          · omega
          · exact h5 h6
      · rintro ⟨h3, h4, h5⟩
        by_cases h6 : r.2 + 1 ≤ x
        · exact .inr ⟨h6, h4, fun h => h5 (.inr h)⟩
        · have h7 : x < r.1 := by
            rcases Int.lt_or_le x r.1 with h | h
            · exact h
            · exact absurd (.inl ⟨h, by omega⟩) h5
          rw [if_pos (by omega)]
          exact .inl ((inS_cons _ _ _).2 (.inl ⟨h3, by dsimp only; omega⟩))
    refine ⟨?_, key⟩
    unfold outF
    split
    · rename_i hlt
      exact Nf.cons (by dsimp only; omega) h1 fun x hx => by have := ((h2 x).1 hx).1; dsimp only; omega
    · exact h1
/-! #### sizes -/
def szS (s : List Rg) : Int := (s.map fun r => r.2 - r.1 + 1).sum
instance (s : List Rg) (x : Int) : Decidable (inS s x) := by unfold inS; infer_instance
/-- How many of n numbers from lo on have p. -/
def cntP (p : Int → Bool) : Nat → Int → Int
  | 0, _ => 0
  | n + 1, lo => (if p lo = true then 1 else 0) + cntP p n (lo + 1)
theorem cntP_add (p q r : Int → Bool) (h : ∀ x, p x = true ↔ q x = true ∨ r x = true) (hd : ∀ x, ¬ (q x = true ∧ r x = true)) : ∀ (n : Nat) (lo : Int), cntP p n lo = cntP q n lo + cntP r n lo
  | 0, _ => rfl
  | n + 1, lo => by
    have ih := cntP_add p q r h hd n (lo + 1)
    have h1 := h lo
    have h2 := hd lo
    unfold cntP
    rw [ih]
    by_cases hq : q lo = true
    · by_cases hr : r lo = true
      · exact absurd ⟨hq, hr⟩ h2
      · rw [if_pos hq, if_neg hr, if_pos (h1.2 (.inl hq))]; omega
    · by_cases hr : r lo = true
      · rw [if_neg hq, if_pos hr, if_pos (h1.2 (.inr hr))]; omega
      · rw [if_neg hq, if_neg hr, if_neg (fun h3 => (h1.1 h3).elim hq hr)]; omega
theorem cntP_in (a b : Int) : ∀ (n : Nat) (lo : Int), a ≤ lo → lo ≤ b + 1 → b < lo + n → cntP (fun x => decide (a ≤ x ∧ x ≤ b)) n lo = b - lo + 1
  | 0, lo, _, h2, h3 => by unfold cntP; omega
  | n + 1, lo, h1, h2, h3 => by
    unfold cntP
    by_cases h : lo ≤ b
    · rw [if_pos (by simp; omega), cntP_in a b n (lo + 1) (by omega) (by omega) (by omega)]; omega
    · rw [if_neg (by simp; omega), cntP_out a b n (lo + 1) (by omega)]; omega
where
  cntP_out (a b : Int) : ∀ (n : Nat) (lo : Int), b < lo → cntP (fun x => decide (a ≤ x ∧ x ≤ b)) n lo = 0
  | 0, _, _ => rfl
  | n + 1, lo, h => by
    unfold cntP
    rw [if_neg (by simp; omega), cntP_out a b n (lo + 1) (by omega)]; omega
theorem cntP_rg (a b : Int) (hab : a ≤ b) : ∀ (n : Nat) (lo : Int), lo ≤ a → b < lo + n → cntP (fun x => decide (a ≤ x ∧ x ≤ b)) n lo = b - a + 1
  | 0, lo, h1, h2 => by omega
  | n + 1, lo, h1, h2 => by
    by_cases h : a ≤ lo
    · have e : lo = a := by omega
      rw [cntP_in a b (n + 1) lo h (by omega) h2, e]
    · unfold cntP
      rw [if_neg (by simp; omega), cntP_rg a b hab n (lo + 1) (by omega) (by omega)]; omega
theorem cntP_none (p : Int → Bool) (h : ∀ x, p x = false) : ∀ (n : Nat) (lo : Int), cntP p n lo = 0
  | 0, _ => rfl
  | n + 1, lo => by unfold cntP; rw [if_neg (by simp [h lo]), cntP_none p h n (lo + 1)]; rfl
theorem szS_cnt (n : Nat) (lo : Int) : ∀ (s : List Rg), Nf s → (∀ x, inS s x → lo ≤ x ∧ x < lo + n) → cntP (fun x => decide (inS s x)) n lo = szS s
  | [], _, _ => by rw [cntP_none _ (fun x => by simp [inS_nil])]; rfl
  | r :: s, hs, hb => by
    have hr := hs.1 r (by simp)
    have abv := fun x => @Nf.above r s hs x
    have b1 := hb r.1 ((inS_cons _ _ _).2 (.inl ⟨Int.le_refl _, hr⟩))
    have b2 := hb r.2 ((inS_cons _ _ _).2 (.inl ⟨hr, Int.le_refl _⟩))
    rw [cntP_add _ (fun x => decide (r.1 ≤ x ∧ x ≤ r.2)) (fun x => decide (inS s x)) (fun x => by simp only [decide_eq_true_iff]; exact inS_cons r s x) (fun x => by
      simp only [decide_eq_true_iff]; rintro ⟨h1, h2⟩; have := abv x h2; omega) n lo, cntP_rg r.1 r.2 hr n lo b1.1 b2.2, szS_cnt n lo s hs.tail fun x hx => hb x ((inS_cons _ _ _).2 (.inr hx))]
    simp [szS]
/-- The sizes of two parts. -/
theorem szS_parts {m d a : List Rg} (hm : Nf m) (hd : Nf d) (ha : Nf a) (ba : Bd a) (h : ∀ x, inS a x ↔ inS m x ∨ inS d x) (h2 : ∀ x, ¬ (inS m x ∧ inS d x)) : szS m + szS d = szS a := by
  have hb : ∀ x, inS a x → (-1000000000000000 : Int) ≤ x ∧ x < -1000000000000000 + (2000000000000001 : Nat) := fun x hx => by have := ba x hx; omega
  rw [← szS_cnt 2000000000000001 (-1000000000000000) a ha hb, ← szS_cnt 2000000000000001 (-1000000000000000) m hm fun x hx => hb x ((h x).2 (.inl hx)), ← szS_cnt 2000000000000001 (-1000000000000000) d hd fun x hx => hb x ((h x).2 (.inr hx))]
  exact (cntP_add _ _ _ (fun x => by simp only [decide_eq_true_iff]; exact h x) (fun x => by simp only [decide_eq_true_iff]; exact h2 x) _ _).symm
theorem szS_bound {s : List Rg} (h : okAll s) : ∀ i, i ≤ s.length → 0 ≤ szS (s.take i) ∧ szS (s.take i) ≤ i * 2000000000000001 := fun i => by
  induction i with
  | zero => intro _; simp [szS]
  | succ i ih =>
    intro hi
    have h1 := ih (by omega)
    obtain ⟨a, b, c, _⟩ := h i (by omega)
    rw [List.getD_eq_getElem?_getD, List.getElem?_eq_getElem (show i < s.length by omega)] at a b c
    dsimp only [Option.getD] at a b c
    rw [List.take_succ_eq_append_getElem (by omega)]
    unfold szS at h1 ⊢
    rw [List.map_append, List.sum_append]
    simp only [List.map_cons, List.map_nil, List.sum_cons, List.sum_nil]
    omega
end Go.Proofs.Ytehmfnpiidcbpaa
