import Derived.Test.YtnggimkkjdipmaaTP6
namespace Go.Proofs.Ytnggimkkjdipmaa
open Go.RowKit
set_option linter.unusedVariables false
set_option linter.unusedSimpArgs false
/-! ### Differ, plain: a walk by breadth over pairs of states, with words -/
abbrev Vis := (Int × Int) × List Int
def diffR (x y : Int × Int) : Bool := (decide (x.1 < 0) != decide (y.1 < 0)) || (x.2 != y.2)
def pushV (word : List Int) (e : Nat) (x y : Int × Int) (L : List Vis) : List Vis := if x.1 < 0 then L else if (x.1, y.1) ∈ L.map (·.1) then L else L ++ [((x.1, y.1), word ++ [(e : Int)])]
def dfRow (word : List Int) : Nat → List ((Int × Int) × (Int × Int)) → List Vis → List Int ⊕ List Vis
  | _, [], L => .inr L
  | e, p :: ps, L => if diffR p.1 p.2 then .inl (word ++ [(e : Int)]) else dfRow word (e + 1) ps (pushV word e p.1 p.2 L)
def findD : Nat → List ((Int × Int) × (Int × Int)) → Option Nat
  | _, [] => none
  | e, p :: ps => if diffR p.1 p.2 then some e else findD (e + 1) ps
def pushAll (word : List Int) : Nat → List ((Int × Int) × (Int × Int)) → List Vis → List Vis
  | _, [], L => L
  | e, p :: ps, L => pushAll word (e + 1) ps (pushV word e p.1 p.2 L)
theorem dfRow_split (word : List Int) : ∀ (ps : List ((Int × Int) × (Int × Int))) (e : Nat) (L : List Vis), dfRow word e ps L = match findD e ps with | some k => .inl (word ++ [(k : Int)]) | none => .inr (pushAll word e ps L)
  | [], e, L => rfl
  | p :: ps, e, L => by
    unfold dfRow findD pushAll
    by_cases h : diffR p.1 p.2 = true
    · rw [if_pos h, if_pos h]
    · rw [if_neg h, if_neg h]
      exact dfRow_split word ps (e + 1) _
theorem dfRow_step (word : List Int) (ra rb : List (Int × Int)) (L : List Vis) (j : Nat) (h1 : j < ra.length) (h2 : j < rb.length) :
    dfRow word j ((ra.zip rb).drop j) L = if diffR ra[j] rb[j] then .inl (word ++ [(j : Int)]) else dfRow word (j + 1) ((ra.zip rb).drop (j + 1)) (pushV word j ra[j] rb[j] L) := by
  rw [List.drop_eq_getElem_cons (by simp; omega)]
  simp only [List.getElem_zip]
  rfl
theorem findD_step (ra rb : List (Int × Int)) (j : Nat) (h1 : j < ra.length) (h2 : j < rb.length) :
    findD j ((ra.zip rb).drop j) = if diffR ra[j] rb[j] then some j else findD (j + 1) ((ra.zip rb).drop (j + 1)) := by
  rw [List.drop_eq_getElem_cons (by simp; omega)]
  simp only [List.getElem_zip]
  rfl
theorem findD_none : ∀ (ra rb : List (Int × Int)) (e : Nat), findD e (ra.zip rb) = none → ∀ j (h1 : j < ra.length) (h2 : j < rb.length), diffR ra[j] rb[j] = false
  | [], _, _, _, j, h1, _ => by simp at h1
  | _ :: _, [], _, _, j, _, h2 => by simp at h2
  | x :: ra, y :: rb, e, h, j, h1, h2 => by
    rw [List.zip_cons_cons] at h
    unfold findD at h
    cases hd : diffR x y with
    | true => simp [hd] at h
    | false =>
      simp only [hd] at h
      cases j with
      | zero => exact hd
      | succ j => exact findD_none ra rb (e + 1) (by simpa using h) j (by simpa using h1) (by simpa using h2)
theorem diffR_sign {x y : Int × Int} (h : diffR x y = false) : (x.1 < 0 ↔ y.1 < 0) ∧ x.2 = y.2 := by
  unfold diffR at h
  simp only [Bool.or_eq_false_iff, bne_eq_false_iff_eq, decide_eq_decide] at h
  exact h
theorem pushAll_step (word : List Int) (ra rb : List (Int × Int)) (L : List Vis) (j : Nat) (h1 : j < ra.length) (h2 : j < rb.length) :
    pushAll word j ((ra.zip rb).drop j) L = pushAll word (j + 1) ((ra.zip rb).drop (j + 1)) (pushV word j ra[j] rb[j] L) := by
  rw [List.drop_eq_getElem_cons (by simp; omega)]
  simp only [List.getElem_zip]
  rfl
def rowsAt (T U : Tb) (p : Int × Int) : List ((Int × Int) × (Int × Int)) := (T.rows.getD p.1.toNat []).zip (U.rows.getD p.2.toNat [])
def dfF (T U : Tb) : Nat → Nat → List Vis → Option (List Int)
  | 0, _, _ => none
  | f + 1, i, L => if i < L.length then match dfRow (L.getD i ((0, 0), [])).2 0 (rowsAt T U (L.getD i ((0, 0), [])).1) L with | .inl w => some w | .inr L' => dfF T U f (i + 1) L' else none
def differT (T U : Tb) (a b : Int) : Option (List Int) := dfF T U 1000 0 [((a, b), [])]
def ValidTwo (T U : Tb) : Bool := validT T && validT U && decide (T.ev = U.ev)
def differF (T : Tb) (a : Int) (U : Tb) (b : Int) : List Int × Int := if ValidTwo T U && T.has a && U.has b then (match differT T U a b with | some w => (w, 0) | none => ([], 3)) else ([], 1)
def alikeF (T U : Tb) : Bool × Int := if ValidTwo T U then ((differT T U T.sr U.sr).isNone, 0) else (false, 1)
theorem dfF_step (T U : Tb) (g i : Nat) (L : List Vis) (h : i < L.length) (s b : Int) (word : List Int) (hs : L[i] = ((s, b), word)) (ra rb : List (Int × Int)) (hr : T.rows.getD s.toNat [] = ra) (hr' : U.rows.getD b.toNat [] = rb) :
    dfF T U (g + 1) i L = match dfRow word 0 (ra.zip rb) L with | .inl w => some w | .inr L' => dfF T U g (i + 1) L' := by
  conv => lhs; unfold dfF
  rw [if_pos h]
  have e1 : L.getD i ((0, 0), []) = ((s, b), word) := by rw [List.getD_eq_getElem?_getD, List.getElem?_eq_getElem h, hs]; rfl
  rw [e1]
  unfold rowsAt
  rw [hr, hr']
theorem dfF_more (T U : Tb) (f i : Nat) (L : List Vis) (h : L.length ≤ i) : dfF T U f i L = none := by
  cases f with
  | zero => rfl
  | succ f => unfold dfF; rw [if_neg (by omega)]
structure DvOk (T U : Tb) (L : List Vis) : Prop where
  pr : PrOk T U (L.map (·.1))
  len : ∀ k (h : k < L.length), L[k].2.length ≤ k
theorem DvOk.le {T U : Tb} {L : List Vis} (h : DvOk T U L) (h1 : T.st ≤ 30) (h2 : U.st ≤ 30) : L.length ≤ 900 := by
  have := h.pr.le h1 h2
  simpa using this
theorem DvOk.rng {T U : Tb} {L : List Vis} (h : DvOk T U L) (i : Nat) (hi : i < L.length) : 0 ≤ L[i].1.1 ∧ L[i].1.1 < T.st ∧ 0 ≤ L[i].1.2 ∧ L[i].1.2 < U.st := h.pr.rng _ (List.mem_map.mpr ⟨_, List.getElem_mem hi, rfl⟩)
theorem DvOk.step {T U : Tb} {L : List Vis} (h : DvOk T U L) (x : Int × Int) (word : List Int) (hr : 0 ≤ x.1 ∧ x.1 < T.st ∧ 0 ≤ x.2 ∧ x.2 < U.st) (hn : x ∉ L.map (·.1)) (hw : word.length ≤ L.length) : DvOk T U (L ++ [(x, word)]) := by
  refine ⟨by rw [List.map_append]; exact h.pr.step x hr hn, fun k hk => ?_⟩
  by_cases hk2 : k < L.length
  · rw [List.getElem_append_left hk2]; exact h.len k hk2
  · rw [List.getElem_append_right (by omega)]
    simp at hk ⊢
    omega
theorem DvOk.start {T U : Tb} {a b : Int} (h1 : 0 ≤ a ∧ a < T.st) (h2 : 0 ≤ b ∧ b < U.st) : DvOk T U [((a, b), [])] :=
  ⟨⟨by simp, fun x hx => by simp at hx; subst hx; exact ⟨h1.1, h1.2, h2.1, h2.2⟩⟩, fun k hk => by simp⟩
end Go.Proofs.Ytnggimkkjdipmaa
namespace Go.Proofs.Ytnggimkkjdipmaa
open Go.RowKit
set_option linter.unusedVariables false
set_option linter.unusedSimpArgs false
/-! ### Two states that are told apart by some word, and the walk that looks for one -/
inductive Ap (T U : Tb) : Int → Int → Prop
  | here {a b e : Int} : 0 ≤ e → e < T.ev → diffR (T.at a e) (U.at b e) = true → Ap T U a b
  | next {a b e : Int} : 0 ≤ e → e < T.ev → 0 ≤ (T.at a e).1 → 0 ≤ (U.at b e).1 → Ap T U (T.at a e).1 (U.at b e).1 → Ap T U a b
abbrev keysV (L : List Vis) : List (Int × Int) := L.map (·.1)
theorem pushV_mem (word : List Int) (e : Nat) (x y : Int × Int) (L : List Vis) :
    (∃ r, pushV word e x y L = L ++ r) ∧ (0 ≤ x.1 → (x.1, y.1) ∈ keysV (pushV word e x y L)) ∧ ∀ z ∈ keysV (pushV word e x y L), z ∈ keysV L ∨ (0 ≤ x.1 ∧ z = (x.1, y.1)) := by
  unfold pushV
  split
  · exact ⟨⟨[], by simp⟩, fun h => by omega, fun z hz => .inl hz⟩
  · split
    · rename_i h1 h2
      exact ⟨⟨[], by simp⟩, fun _ => h2, fun z hz => .inl hz⟩
    · rename_i h1 h2
      refine ⟨⟨_, rfl⟩, fun _ => by simp [keysV], fun z hz => ?_⟩
      simp only [keysV, List.map_append, List.mem_append, List.map_cons, List.map_nil, List.mem_singleton] at hz
      rcases hz with hz | hz
      · exact .inl hz
      · exact .inr ⟨by omega, hz⟩
theorem dfRow_inr (word : List Int) : ∀ (ps : List ((Int × Int) × (Int × Int))) (e : Nat) (L L' : List Vis), dfRow word e ps L = .inr L' →
    (∃ r, L' = L ++ r) ∧ (∀ p ∈ ps, diffR p.1 p.2 = false ∧ (0 ≤ p.1.1 → (p.1.1, p.2.1) ∈ keysV L')) ∧ ∀ z ∈ keysV L', z ∈ keysV L ∨ ∃ p ∈ ps, 0 ≤ p.1.1 ∧ z = (p.1.1, p.2.1)
  | [], e, L, L', h => by
    cases h
    exact ⟨⟨[], by simp⟩, fun p hp => by simp at hp, fun z hz => .inl hz⟩
  | p :: ps, e, L, L', h => by
    unfold dfRow at h
    cases hd : diffR p.1 p.2 with
    | true => simp [hd] at h
    | false =>
      simp only [hd] at h
      obtain ⟨⟨r, hr⟩, h2, h3⟩ := dfRow_inr word ps (e + 1) _ _ h
      obtain ⟨⟨r', hr'⟩, g2, g3⟩ := pushV_mem word e p.1 p.2 L
      refine ⟨⟨r' ++ r, by rw [hr, hr', List.append_assoc]⟩, fun q hq => ?_, fun z hz => ?_⟩
      · rcases List.mem_cons.mp hq with rfl | hq
        · refine ⟨hd, fun h0 => ?_⟩
          rw [hr, keysV, List.map_append]
          exact List.mem_append.mpr (.inl (g2 h0))
        · exact h2 q hq
      · rcases h3 z hz with h4 | ⟨q, hq, h5⟩
        · rcases g3 z h4 with h6 | h6
          · exact .inl h6
          · exact .inr ⟨p, by simp, h6⟩
        · exact .inr ⟨q, by simp [hq], h5⟩
theorem dfRow_inl (word : List Int) : ∀ (ps : List ((Int × Int) × (Int × Int))) (e : Nat) (L : List Vis) (w : List Int), dfRow word e ps L = .inl w → ∃ p ∈ ps, diffR p.1 p.2 = true
  | [], e, L, w, h => by cases h
  | p :: ps, e, L, w, h => by
    unfold dfRow at h
    cases hd : diffR p.1 p.2 with
    | true => exact ⟨p, by simp, hd⟩
    | false =>
      simp only [hd] at h
      obtain ⟨q, hq, h1⟩ := dfRow_inl word ps (e + 1) _ _ h
      exact ⟨q, by simp [hq], h1⟩
/-- The rows of two states, event by event. -/
theorem rowsAt_mem {T U : Tb} (hT : VT T) (hU : VT U) (hev : T.ev = U.ev) {a b : Int} (ha : 0 ≤ a ∧ a < T.st) (hb : 0 ≤ b ∧ b < U.st) :
    (∀ p ∈ rowsAt T U (a, b), ∃ e : Int, 0 ≤ e ∧ e < T.ev ∧ p = (T.at a e, U.at b e)) ∧ ∀ e : Int, 0 ≤ e → e < T.ev → (T.at a e, U.at b e) ∈ rowsAt T U (a, b) := by
  have h1 := hT.len ha.1 ha.2
  have h2 := hU.len hb.1 hb.2
  have r1 := hT.row _ (List.getElem_mem h1)
  have r2 := hU.row _ (List.getElem_mem h2)
  have e1 : rowsAt T U (a, b) = (T.rows[a.toNat]).zip (U.rows[b.toNat]) := by
    unfold rowsAt
    rw [List.getD_eq_getElem?_getD, List.getD_eq_getElem?_getD, List.getElem?_eq_getElem h1, List.getElem?_eq_getElem h2]; rfl
  rw [e1]
  constructor
  · intro p hp
    obtain ⟨j, hj, rfl⟩ := List.getElem_of_mem hp
    simp at hj
    obtain ⟨_, he, e2⟩ := hT.get (s := a) (e := (j : Int)) ha.1 ha.2 (by omega) (by omega)
    obtain ⟨_, he', e3⟩ := hU.get (s := b) (e := (j : Int)) hb.1 hb.2 (by omega) (by omega)
    refine ⟨(j : Int), by omega, by omega, ?_⟩
    rw [e2, e3, List.getElem_zip]; rfl
  · intro e h0 h3
    obtain ⟨_, he, e2⟩ := hT.get (s := a) (e := e) ha.1 ha.2 h0 h3
    obtain ⟨_, he', e3⟩ := hU.get (s := b) (e := e) hb.1 hb.2 h0 (by omega)
    rw [e2, e3]
    have : ((T.rows[a.toNat]).zip (U.rows[b.toNat]))[e.toNat]'(by simp; omega) = (T.rows[a.toNat][e.toNat], U.rows[b.toNat][e.toNat]) := List.getElem_zip
    rw [← this]
    exact List.getElem_mem _
theorem pushV_ok {T U : Tb} {word : List Int} {e : Nat} {x y : Int × Int} {L : List Vis} (h : DvOk T U L) (hx : x.1 < T.st) (hy : y.1 < U.st) (hs : x.1 < 0 ↔ y.1 < 0) (hw : word.length < L.length) : DvOk T U (pushV word e x y L) ∧ L.length ≤ (pushV word e x y L).length := by
  unfold pushV
  split
  · exact ⟨h, Nat.le_refl _⟩
  · split
    · exact ⟨h, Nat.le_refl _⟩
    · refine ⟨h.step _ _ ?_ ‹_› (by simp; omega), by simp⟩
      dsimp only
      omega
theorem dfRow_ok {T U : Tb} {word : List Int} : ∀ (ps : List ((Int × Int) × (Int × Int))) (e : Nat) (L L' : List Vis), (∀ p ∈ ps, p.1.1 < T.st ∧ p.2.1 < U.st) → DvOk T U L → word.length < L.length → dfRow word e ps L = .inr L' → DvOk T U L'
  | [], e, L, L', _, h, _, h1 => by cases h1; exact h
  | p :: ps, e, L, L', hp, h, hw, h1 => by
    unfold dfRow at h1
    cases hd : diffR p.1 p.2 with
    | true => simp [hd] at h1
    | false =>
      simp only [hd] at h1
      have hq := hp p (by simp)
      obtain ⟨h2, h3⟩ := pushV_ok (word := word) (e := e) h hq.1 hq.2 (diffR_sign hd).1 hw
      exact dfRow_ok ps (e + 1) _ _ (fun q hq => hp q (by simp [hq])) h2 (by omega) h1
/-- Closed: no difference, and whatever follows is among those. -/
def Clo (T U : Tb) (S : List (Int × Int)) (x : Int × Int) : Prop := ∀ e : Int, 0 ≤ e → e < T.ev → diffR (T.at x.1 e) (U.at x.2 e) = false ∧ (0 ≤ (T.at x.1 e).1 → ((T.at x.1 e).1, (U.at x.2 e).1) ∈ S)
theorem Clo.mono {T U : Tb} {S S' : List (Int × Int)} {x : Int × Int} (h : Clo T U S x) (hs : ∀ z ∈ S, z ∈ S') : Clo T U S' x := fun e h0 h1 => ⟨(h e h0 h1).1, fun h2 => hs _ ((h e h0 h1).2 h2)⟩
theorem not_ap {T U : Tb} {S : List (Int × Int)} (h : ∀ x ∈ S, Clo T U S x) {a b : Int} (hab : Ap T U a b) : (a, b) ∉ S := by
  induction hab with
  | here h0 h1 hd => intro hm; have := (h _ hm _ h0 h1).1; rw [hd] at this; cases this
  | next h0 h1 h2 h3 _ ih => intro hm; exact ih ((h _ hm _ h0 h1).2 h2)
theorem dfF_law {T U : Tb} (hT : VT T) (hU : VT U) (hev : T.ev = U.ev) (a b : Int) : ∀ (f i : Nat) (L : List Vis), f + i = 1000 → DvOk T U L → (a, b) ∈ keysV L → (∀ x ∈ keysV L, Ap T U x.1 x.2 → Ap T U a b) → (∀ k (h : k < L.length), k < i → Clo T U (keysV L) L[k].1) →
    ((dfF T U f i L).isSome = true ↔ Ap T U a b)
  | 0, i, L, hf, hO, hm, hA, hC => by
    have hle := hO.le hT.st.2 hU.st.2
    have hcl : ∀ x ∈ keysV L, Clo T U (keysV L) x := fun x hx => by
      obtain ⟨k, hk, rfl⟩ := List.getElem_of_mem hx
      simp only [keysV, List.length_map] at hk
      have := hC k hk (by omega)
      simpa [keysV] using this
    constructor
    · intro h; simp [dfF] at h
    · intro h; exact absurd hm (not_ap hcl h)
  | f + 1, i, L, hf, hO, hm, hA, hC => by
    by_cases hlt : i < L.length
    · have hrg := hO.rng i hlt
      obtain ⟨hr1, hr2⟩ := rowsAt_mem hT hU hev (a := L[i].1.1) (b := L[i].1.2) ⟨hrg.1, hrg.2.1⟩ ⟨hrg.2.2.1, hrg.2.2.2⟩
      have hmi : L[i].1 ∈ keysV L := List.mem_map.mpr ⟨_, List.getElem_mem hlt, rfl⟩
      unfold dfF
      rw [if_pos hlt, List.getD_eq_getElem?_getD, List.getElem?_eq_getElem hlt]
      simp only [Option.getD_some]
      cases hR : dfRow L[i].2 0 (rowsAt T U L[i].1) L with
      | inl w =>
        obtain ⟨p, hp, hd⟩ := dfRow_inl _ _ _ _ _ hR
        obtain ⟨e, h0, h1, rfl⟩ := hr1 p hp
        simp only [Option.isSome_some, true_iff]
        exact hA _ hmi (Ap.here h0 h1 hd)
      | inr L' =>
        obtain ⟨⟨r, rfl⟩, h2, h3⟩ := dfRow_inr _ _ _ _ _ hR
        have hO' := dfRow_ok (T := T) (U := U) _ _ _ _ (fun p hp => by
          obtain ⟨e, h0, h1, rfl⟩ := hr1 p hp
          exact ⟨(hT.atOk hrg.1 hrg.2.1 h0 h1).2.1, (hU.atOk hrg.2.2.1 hrg.2.2.2 h0 (by omega)).2.1⟩) hO (by have := hO.len i hlt; omega) hR
        refine dfF_law hT hU hev a b f (i + 1) _ (by omega) hO' (by rw [keysV, List.map_append]; exact List.mem_append.mpr (.inl hm)) (fun x hx hap => ?_) (fun k hk hki => ?_)
        · rcases h3 x hx with h4 | ⟨p, hp, h5, h6⟩
          · exact hA x h4 hap
          · obtain ⟨e, h0, h1, rfl⟩ := hr1 p hp
            have hd := (h2 _ hp).1
            have hsg := (diffR_sign hd).1
            rw [h6] at hap
            exact hA _ hmi (Ap.next h0 h1 h5 (by dsimp only at hsg h5 ⊢; omega) hap)
        · by_cases hke : k < i
          · have hkl : k < L.length := by omega
            rw [List.getElem_append_left hkl]
            exact (hC k hkl hke).mono (fun z hz => by rw [keysV, List.map_append]; exact List.mem_append.mpr (.inl hz))
          · obtain rfl : k = i := by omega
            rw [List.getElem_append_left hlt]
            intro e h0 h1
            have := h2 _ (hr2 e h0 h1)
            exact ⟨this.1, this.2⟩
    · have hcl : ∀ x ∈ keysV L, Clo T U (keysV L) x := fun x hx => by
        obtain ⟨k, hk, rfl⟩ := List.getElem_of_mem hx
        simp only [keysV, List.length_map] at hk
        have := hC k hk (by omega)
        simpa [keysV] using this
      rw [dfF_more _ _ _ _ _ (by omega)]
      constructor
      · intro h; simp at h
      · intro h; exact absurd hm (not_ap hcl h)
theorem differT_law {T U : Tb} (hT : VT T) (hU : VT U) (hev : T.ev = U.ev) {a b : Int} (ha : 0 ≤ a ∧ a < T.st) (hb : 0 ≤ b ∧ b < U.st) : (differT T U a b).isSome = true ↔ Ap T U a b :=
  dfF_law hT hU hev a b 1000 0 _ rfl (DvOk.start ha hb) (by simp [keysV]) (fun x hx h => by simp [keysV] at hx; subst hx; exact h) (fun k hk hki => by omega)
end Go.Proofs.Ytnggimkkjdipmaa
namespace Go.Proofs.Ytnggimkkjdipmaa
open Go.RowKit
set_option linter.unusedVariables false
set_option linter.unusedSimpArgs false
theorem dfRow_inl_len (word : List Int) : ∀ (ps : List ((Int × Int) × (Int × Int))) (e : Nat) (L : List Vis) (w : List Int), dfRow word e ps L = .inl w → w.length = word.length + 1
  | [], e, L, w, h => by cases h
  | p :: ps, e, L, w, h => by
    unfold dfRow at h
    cases hd : diffR p.1 p.2 with
    | true => simp [hd] at h; rw [← h]; simp
    | false => simp only [hd] at h; exact dfRow_inl_len word ps _ _ _ h
theorem dfF_len {T U : Tb} (hT : VT T) (hU : VT U) (hev : T.ev = U.ev) : ∀ (f i : Nat) (L : List Vis) (w : List Int), DvOk T U L → dfF T U f i L = some w → w.length ≤ 900
  | 0, i, L, w, hO, h => by simp [dfF] at h
  | f + 1, i, L, w, hO, h => by
    by_cases hlt : i < L.length
    · have hrg := hO.rng i hlt
      obtain ⟨hr1, _⟩ := rowsAt_mem hT hU hev (a := L[i].1.1) (b := L[i].1.2) ⟨hrg.1, hrg.2.1⟩ ⟨hrg.2.2.1, hrg.2.2.2⟩
      unfold dfF at h
      rw [if_pos hlt, List.getD_eq_getElem?_getD, List.getElem?_eq_getElem hlt] at h
      simp only [Option.getD_some] at h
      cases hR : dfRow L[i].2 0 (rowsAt T U L[i].1) L with
      | inl w' =>
        rw [hR] at h
        have : w' = w := by simpa using h
        subst this
        have h1 := dfRow_inl_len _ _ _ _ _ hR
        have h2 := hO.len i hlt
        have h3 := hO.le hT.st.2 hU.st.2
        omega
      | inr L' =>
        rw [hR] at h
        refine dfF_len hT hU hev f (i + 1) L' w (dfRow_ok (T := T) (U := U) _ _ _ _ (fun p hp => ?_) hO (by have := hO.len i hlt; omega) hR) h
        obtain ⟨e, h0, h1, rfl⟩ := hr1 p hp
        exact ⟨(hT.atOk hrg.1 hrg.2.1 h0 h1).2.1, (hU.atOk hrg.2.2.1 hrg.2.2.2 h0 (by omega)).2.1⟩
    · rw [dfF_more _ _ _ _ _ (by omega)] at h; cases h
theorem validTwo {T U : Tb} (h : ValidTwo T U = true) : VT T ∧ VT U ∧ T.ev = U.ev := by
  unfold ValidTwo at h
  simp only [Bool.and_eq_true, decide_eq_true_eq] at h
  exact ⟨(validT_iff T).mp h.1.1, (validT_iff U).mp h.1.2, h.2⟩
theorem differF_len (T : Tb) (a : Int) (U : Tb) (b : Int) : (differF T a U b).1.length ≤ 900 := by
  unfold differF
  split
  · rename_i h
    simp only [Bool.and_eq_true] at h
    obtain ⟨hT, hU, hev⟩ := validTwo h.1.1
    have h1 : 0 ≤ a ∧ a < T.st := by have := h.1.2; simpa [Tb.has] using this
    have h2 : 0 ≤ b ∧ b < U.st := by have := h.2; simpa [Tb.has] using this
    cases hd : differT T U a b with
    | none => simp
    | some w => exact dfF_len hT hU hev 1000 0 _ w (DvOk.start h1 h2) hd
  · simp
end Go.Proofs.Ytnggimkkjdipmaa
