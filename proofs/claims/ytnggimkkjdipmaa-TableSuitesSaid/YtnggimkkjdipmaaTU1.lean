import Derived.Test.YtnggimkkjdipmaaTLW
import Derived.Test.YtnggimkkjdipmaaTL11
namespace Go.Proofs.Ytnggimkkjdipmaa
open Go.RowKit
set_option linter.unusedVariables false
set_option linter.unusedSimpArgs false
set_option maxHeartbeats 16000000
set_option maxRecDepth 100000
/-! ### suite, plain -/
/-- A word is a beginning of another one, and not it. -/
def isPre (a b : List Int) : Bool := decide (a.length < b.length) && decide (b.take a.length = a)
/-- Words that are beginnings of others, left out. -/
def wholeL (l : List (List Int)) : List (List Int) := l.filter fun w => !(l.any fun x => isPre w x)
theorem wholeL_asc {l : List (List Int)} (h : Asc l) : Asc (wholeL l) := List.Pairwise.filter _ h
theorem wholeL_mem (l : List (List Int)) (x : List Int) : x ∈ wholeL l ↔ x ∈ l ∧ ∀ y ∈ l, isPre x y = false := by
  unfold wholeL
  rw [List.mem_filter]
  simp
theorem pre_mid : ∀ (p y z : List Int), cmpL p y < 0 → cmpL y z < 0 → p.length ≤ z.length → z.take p.length = p → p.length ≤ y.length ∧ y.take p.length = p
  | [], y, z, _, _, _, _ => by simp
  | a :: p, [], z, h1, _, _, _ => by simp [cmpL] at h1
  | a :: p, b :: y, [], _, _, h3, _ => by simp at h3
  | a :: p, b :: y, c :: z, h1, h2, h3, h4 => by
    simp only [List.length_cons, List.take_succ_cons, List.cons.injEq] at h4
    obtain ⟨rfl, h4⟩ := h4
    have e1 : cmpL (c :: p) (b :: y) = if cmpI c b = 0 then cmpL p y else cmpI c b := rfl
    have e2 : cmpL (b :: y) (c :: z) = if cmpI b c = 0 then cmpL y z else cmpI b c := rfl
    rw [e1] at h1
    rw [e2] at h2
    by_cases hc : c = b
    · subst hc
      rw [if_pos ((cmpI_eq _ _).mpr rfl)] at h1 h2
      obtain ⟨g1, g2⟩ := pre_mid p y z h1 h2 (by simpa using h3) h4
      exact ⟨by simpa using g1, by simp [g2]⟩
    · rw [if_neg (fun e => hc ((cmpI_eq _ _).mp e))] at h1
      rw [if_neg (fun e => hc ((cmpI_eq _ _).mp e).symm)] at h2
      have := (cmpI_lt _ _).mp h1
      have := (cmpI_lt _ _).mp h2
      omega
theorem pre_less : ∀ (p z : List Int), isPre p z = true → cmpL p z < 0
  | [], [], h => by simp [isPre] at h
  | [], c :: z, _ => by simp [cmpL]
  | a :: p, [], h => by simp [isPre] at h
  | a :: p, c :: z, h => by
    simp only [isPre, List.length_cons, List.take_succ_cons, List.cons.injEq, Bool.and_eq_true, decide_eq_true_eq] at h
    obtain ⟨h1, rfl, h2⟩ := h
    have e1 : cmpL (c :: p) (c :: z) = if cmpI c c = 0 then cmpL p z else cmpI c c := rfl
    rw [e1, if_pos ((cmpI_eq _ _).mpr rfl)]
    exact pre_less p z (by simp only [isPre, Bool.and_eq_true, decide_eq_true_eq]; exact ⟨by omega, h2⟩)
/-- The next word begins with this one. -/
def nxtB (S : List (List Int)) (k : Nat) : Bool := decide (k + 1 < S.length) && decide ((S.getD k []).length ≤ (S.getD (k + 1) []).length) && decide ((S.getD (k + 1) []).take (S.getD k []).length = S.getD k [])
def keepTo (S : List (List Int)) (i : Nat) : List (List Int) := ((List.range i).filter fun k => !nxtB S k).map fun k => S.getD k []
theorem keepTo_succ (S : List (List Int)) (i : Nat) : keepTo S (i + 1) = keepTo S i ++ (if nxtB S i then [] else [S.getD i []]) := by
  unfold keepTo
  rw [List.range_succ, List.filter_append, List.map_append]
  congr 1
  cases h : nxtB S i <;> simp [h]
structure SoC (S : List (List Int)) : Prop where
  lt : S.Pairwise fun a b => cmpL a b < 0
theorem cmpL_irr (a : List Int) : ¬ cmpL a a < 0 := by
  have := (cmpL_zero a a).mpr rfl
  omega
theorem SoC.next {S : List (List Int)} (h : SoC S) (k : Nat) (hk : k < S.length) : nxtB S k = true ↔ ∃ y ∈ S, isPre S[k] y = true := by
  have hp := List.pairwise_iff_getElem.mp h.lt
  have e1 : S.getD k [] = S[k] := by rw [List.getD_eq_getElem?_getD, List.getElem?_eq_getElem hk]; rfl
  constructor
  · intro hn
    simp only [nxtB, Bool.and_eq_true, decide_eq_true_eq] at hn
    obtain ⟨⟨h1, h2⟩, h3⟩ := hn
    have e2 : S.getD (k + 1) [] = S[k + 1] := by rw [List.getD_eq_getElem?_getD, List.getElem?_eq_getElem h1]; rfl
    rw [e1, e2] at h2 h3
    refine ⟨S[k + 1], List.getElem_mem h1, ?_⟩
    simp only [isPre, Bool.and_eq_true, decide_eq_true_eq]
    refine ⟨?_, h3⟩
    rcases Nat.lt_or_ge S[k].length S[k + 1].length with h4 | h4
    · exact h4
    · have := hp k (k + 1) hk h1 (by omega)
      rw [List.take_of_length_le h4] at h3
      rw [h3] at this
      exact absurd this (cmpL_irr _)
  · rintro ⟨y, hy, hpre⟩
    obtain ⟨j, hj, rfl⟩ := List.getElem_of_mem hy
    have hl := pre_less _ _ hpre
    have hkj : k < j := by
      rcases Nat.lt_trichotomy k j with h1 | h1 | h1
      · exact h1
      · subst h1; exact absurd hl (cmpL_irr _)
      · have := cmpL_trans _ _ _ hl (hp j k hj hk h1)
        exact absurd this (cmpL_irr _)
    have h1 : k + 1 < S.length := by omega
    have e2 : S.getD (k + 1) [] = S[k + 1] := by rw [List.getD_eq_getElem?_getD, List.getElem?_eq_getElem h1]; rfl
    simp only [isPre, Bool.and_eq_true, decide_eq_true_eq] at hpre
    simp only [nxtB, Bool.and_eq_true, decide_eq_true_eq]
    rw [e1, e2]
    rcases Nat.lt_or_ge (k + 1) j with h2 | h2
    · obtain ⟨g1, g2⟩ := pre_mid _ _ _ (hp k (k + 1) hk h1 (by omega)) (hp (k + 1) j h1 hj h2) (by omega) hpre.2
      exact ⟨⟨h1, g1⟩, g2⟩
    · obtain rfl : j = k + 1 := by omega
      exact ⟨⟨h1, by omega⟩, hpre.2⟩
theorem SoC.keep {S : List (List Int)} (h : SoC S) (x : List Int) : x ∈ keepTo S S.length ↔ x ∈ S ∧ ∀ y ∈ S, isPre x y = false := by
  unfold keepTo
  simp only [List.mem_map, List.mem_filter, List.mem_range, Bool.not_eq_true', Bool.not_eq_eq_eq_not, Bool.not_true]
  constructor
  · rintro ⟨k, ⟨hk, hn⟩, rfl⟩
    have e1 : S.getD k [] = S[k] := by rw [List.getD_eq_getElem?_getD, List.getElem?_eq_getElem hk]; rfl
    rw [e1]
    refine ⟨List.getElem_mem hk, fun y hy => ?_⟩
    cases hp : isPre S[k] y with
    | false => rfl
    | true => rw [(h.next k hk).mpr ⟨y, hy, hp⟩] at hn; cases hn
  · rintro ⟨hx, hp⟩
    obtain ⟨k, hk, rfl⟩ := List.getElem_of_mem hx
    have e1 : S.getD k [] = S[k] := by rw [List.getD_eq_getElem?_getD, List.getElem?_eq_getElem hk]; rfl
    refine ⟨k, ⟨hk, ?_⟩, e1⟩
    cases hn : nxtB S k with
    | false => rfl
    | true =>
      obtain ⟨y, hy, hq⟩ := (h.next k hk).mp hn
      rw [hp y hy] at hq; cases hq
theorem SoC.nodup {S : List (List Int)} (h : SoC S) : (keepTo S S.length).Nodup := by
  have hn : S.Nodup := h.lt.imp fun hab e => by subst e; exact cmpL_irr _ hab
  unfold keepTo
  rw [List.Nodup, List.pairwise_map]
  refine (List.Pairwise.filter _ List.nodup_range).imp_of_mem fun {a b} ha hb hab e => ?_
  have ha' := List.mem_range.mp (List.mem_filter.mp ha).1
  have hb' := List.mem_range.mp (List.mem_filter.mp hb).1
  rw [List.getD_eq_getElem?_getD, List.getD_eq_getElem?_getD, List.getElem?_eq_getElem ha', List.getElem?_eq_getElem hb'] at e
  have e' : S[a] = S[b] := by simpa using e
  have hq := List.pairwise_iff_getElem.mp hn
  rcases Nat.lt_trichotomy a b with h1 | h1 | h1
  · exact hq a b ha' hb' h1 e'
  · exact hab h1
  · exact hq b a hb' ha' h1 e'.symm
theorem asc_nodup {l : List (List Int)} (hl : Asc l) : l.Nodup := hl.imp fun {a b} hab e => by
  subst e
  have := (byLen_zero a a).mpr rfl
  omega
/-- Sorted as texts, the words of an ascending list. -/
theorem SoC.of_sorted {S l : List (List Int)} (hl : Asc l) (hp : S.Perm l) (hs : S.Pairwise fun a b => ¬ cmpL b a < 0) : SoC S := by
  have hn : S.Nodup := hp.symm.nodup (asc_nodup hl)
  refine ⟨(hs.and hn).imp fun {a b} ⟨h1, h2⟩ => ?_⟩
  have e := cmpL_flip a b
  have z := mt (cmpL_zero a b).mp h2
  omega
/-- What whole hands back. -/
theorem whole_eq {S l o : List (List Int)} (hl : Asc l) (hp : S.Perm l) (hs : S.Pairwise fun a b => ¬ cmpL b a < 0) (ho : o.Perm (keepTo S S.length)) (hb : o.Pairwise fun a b => ¬ byLen b a < 0) : o = wholeL l := by
  have hS := SoC.of_sorted hl hp hs
  have hn : o.Nodup := ho.symm.nodup hS.nodup
  have hA : Asc o := (hb.and hn).imp fun {a b} ⟨h1, h2⟩ => by
    have e := byLen_flip a b
    have z := mt (byLen_zero a b).mp h2
    omega
  refine asc_eq _ _ hA (wholeL_asc hl) fun x => ?_
  rw [ho.mem_iff, hS.keep, wholeL_mem, hp.mem_iff]
  constructor
  · rintro ⟨h1, h2⟩; exact ⟨h1, fun y hy => h2 y (hp.mem_iff.mpr hy)⟩
  · rintro ⟨h1, h2⟩; exact ⟨h1, fun y hy => h2 y (hp.mem_iff.mp hy)⟩
theorem once_congr {l m : List (List Int)} (h : ∀ x, x ∈ l ↔ x ∈ m) : onceF l = onceF m := asc_eq _ _ (onceF_asc l) (onceF_asc m) (fun x => by rw [onceF_mem, onceF_mem, h])
/-! #### suite -/
def headsL (ev : Nat) (c : List Int) : List (List Int) := c :: (List.range ev).map fun e : Nat => c ++ [(e : Int)]
def sWords (ev : Nat) (tl : List (List Int)) (c : List Int) : List (List Int) := (headsL ev c).flatMap fun h => ([] :: tl).map fun w => h ++ w
def suiteL (T : Tb) (tl : List (List Int)) : List (List Int) := wholeL (onceF ((coverL T).flatMap (sWords T.ev.toNat tl)))
/-- The words that lead to the states are those of the walk. -/
theorem cover_walk {T : Tb} (hT : VT T) (x : List Int) : x ∈ ((walkT (leastT T)).map (·.2)) ↔ x ∈ coverL (leastT T) := by
  have hL := least_valid hT
  have hO := least_order hT
  have hst : (leastT T).st = ((mems T).length : Int) := rfl
  obtain ⟨hok, _, _⟩ := walkF_law hL 40 0 _ rfl (WOk.start hL) ⟨[], rfl⟩ (fun k hk hki => by omega)
  unfold coverL
  simp only [List.mem_map, List.mem_range]
  constructor
  · rintro ⟨p, hp, rfl⟩
    have hr := hok.rng p hp
    refine ⟨p.1.toNat, by omega, ?_⟩
    rw [Int.toNat_of_nonneg hr.1]
    exact lookW_mem hok.nd hp
  · rintro ⟨s, hs, rfl⟩
    have hm : (s : Int) ∈ keyW (walkT (leastT T)) := by
      show (s : Int) ∈ orderT (leastT T)
      rw [hO]
      exact (iota_mem _ _).mpr (by omega)
    obtain ⟨p, hp, _, h2⟩ := lookW_get _ _ hm
    exact ⟨p, hp, h2⟩
end Go.Proofs.Ytnggimkkjdipmaa
