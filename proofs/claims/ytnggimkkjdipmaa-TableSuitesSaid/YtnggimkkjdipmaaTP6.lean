import Derived.Test.YtnggimkkjdipmaaTP3
import Derived.Test.YtnggimkkjdipmaaMaps
namespace Go.Proofs.Ytnggimkkjdipmaa
open Go.RowKit
set_option linter.unusedVariables false
set_option linter.unusedSimpArgs false
/-! ### A walk by breadth: what holds on the way -/
structure WOk (T : Tb) (L : List (Int × List Int)) : Prop where
  nd : (L.map (·.1)).Nodup
  rng : ∀ x ∈ L, 0 ≤ x.1 ∧ x.1 < T.st
  len : ∀ k (h : k < L.length), L[k].2.length ≤ k
theorem WOk.le {T : Tb} {L : List (Int × List Int)} (h : WOk T L) : L.length ≤ T.st.toNat := by
  have := pigeon (L.map (·.1)) ((List.range T.st.toNat).map fun n : Nat => (n : Int)) h.nd (fun x hx => by
    obtain ⟨y, hy, rfl⟩ := List.mem_map.mp hx
    have := h.rng y hy
    exact List.mem_map.mpr ⟨y.1.toNat, List.mem_range.mpr (by omega), by show ((y.1.toNat : Nat) : Int) = y.1; omega⟩)
  simpa using this
theorem WOk.step {T : Tb} {L : List (Int × List Int)} (h : WOk T L) (x : Int) (word : List Int) (h0 : 0 ≤ x) (h1 : x < T.st) (hn : ¬ L.any (fun y => y.1 == x) = true) (hw : word.length ≤ L.length) : WOk T (L ++ [(x, word)]) := by
  refine ⟨?_, fun y hy => ?_, fun k hk => ?_⟩
  · rw [List.map_append, List.nodup_append]
    refine ⟨h.nd, by simp, fun a ha b hb => ?_⟩
    simp at hb; subst hb
    rintro rfl
    obtain ⟨y, hy, rfl⟩ := List.mem_map.mp ha
    exact hn (List.any_eq_true.mpr ⟨y, hy, by simp⟩)
  · rcases List.mem_append.mp hy with hy | hy
    · exact h.rng y hy
    · simp at hy; subst hy; exact ⟨h0, h1⟩
  · by_cases e : k < L.length
    · rw [List.getElem_append_left e]; exact h.len k e
    · have : k = L.length := by simp at hk; omega
      subst this
      simp [hw]
theorem WOk.start {T : Tb} (h : VT T) : WOk T [(T.sr, [])] :=
  ⟨by simp, fun x hx => by simp at hx; subst hx; exact h.sr, fun k hk => by simp at hk; subst hk; simp⟩
theorem wRow_cons (word : List Int) (e : Nat) (r : Int × Int) (rs : List (Int × Int)) (L : List (Int × List Int)) : wRow word e (r :: rs) L = wRow word (e + 1) rs (wStep word L e r) := rfl
/-- Lists of entries. -/
theorem kget_none {κ : Type} [DecidableEq κ] : ∀ (M : List (κ × Value)) (k : κ), k ∉ M.map (·.1) → kget M k = none
  | [], _, _ => rfl
  | x :: M, k, h => by
    have h1 : ¬ x.1 = k := fun e => h (by simp [e])
    have h2 : k ∉ M.map (·.1) := fun e => h (by simp at e ⊢; exact .inr e)
    simp [kget, h1, kget_none M k h2]
theorem kget_at {κ : Type} [DecidableEq κ] : ∀ (M : List (κ × Value)) (i : Nat) (h : i < M.length), (M.map (·.1)).Nodup → kget M M[i].1 = some M[i].2
  | x :: M, 0, _, _ => by simp [kget]
  | x :: M, i + 1, h, hn => by
    simp only [List.map_cons, List.nodup_cons] at hn
    have hi : i < M.length := by simpa using h
    have hne : ¬ x.1 = M[i].1 := fun e => hn.1 (by rw [e]; exact List.mem_map.mpr ⟨_, List.getElem_mem hi, rfl⟩)
    simp only [List.getElem_cons_succ, kget, hne, if_false]
    exact kget_at M i hi hn.2
theorem kget_some {κ : Type} [DecidableEq κ] : ∀ (M : List (κ × Value)) (k : κ), k ∈ M.map (·.1) → (kget M k).isSome = true
  | x :: M, k, h => by
    by_cases e : x.1 = k
    · simp [kget, e]
    · have : k ∈ M.map (·.1) := by simp at h ⊢; rcases h with h | h; exact absurd h.symm e; exact h
      simp [kget, e, kget_some M k this]
theorem kset_new {κ : Type} [DecidableEq κ] : ∀ (M : List (κ × Value)) (k : κ) (v : Value), k ∉ M.map (·.1) → kset M k v = M ++ [(k, v)]
  | [], _, _, _ => rfl
  | x :: M, k, v, h => by
    have h1 : ¬ x.1 = k := fun e => h (by simp [e])
    have h2 : k ∉ M.map (·.1) := fun e => h (by simp at e ⊢; exact .inr e)
    simp [kset, h1, kset_new M k v h2]
theorem kget_isSome {κ : Type} [DecidableEq κ] (M : List (κ × Value)) (k : κ) : (kget M k).isSome = decide (k ∈ M.map (·.1)) := by
  by_cases h : k ∈ M.map (·.1)
  · rw [kget_some M k h, decide_eq_true h]
  · rw [kget_none M k h, decide_eq_false h]; rfl
theorem any_keys (L : List (Int × List Int)) (x : Int) : L.any (fun y => y.1 == x) = decide (x ∈ L.map (·.1)) := by
  rw [Bool.eq_iff_iff, decide_eq_true_eq, List.any_eq_true, List.mem_map]
  constructor
  · rintro ⟨y, hy, e⟩; exact ⟨y, hy, by simpa using e⟩
  · rintro ⟨y, hy, e⟩; exact ⟨y, hy, by simpa using e⟩
theorem walkF_more (T : Tb) : ∀ (f : Nat) (i : Nat) (L : List (Int × List Int)), L.length ≤ i → walkF T f i L = L
  | 0, _, _, _ => rfl
  | f + 1, i, L, h => by unfold walkF; rw [if_neg (by omega)]
end Go.Proofs.Ytnggimkkjdipmaa
namespace Go.Proofs.Ytnggimkkjdipmaa
open Go.RowKit
set_option linter.unusedVariables false
set_option linter.unusedSimpArgs false
/-! ### least, plain -/
theorem VT.le30 {T : Tb} (h : VT T) : T.rows.length ≤ 30 := by have := h.st; have := h.rows; omega
theorem classF_ok (T : Tb) (hn : T.rows.length ≤ 30) : ∀ (f : Nat) (c : List Int) (n : Nat), ClOk T c n → ∃ n', ClOk T (classF T f c n) n'
  | 0, c, n, h => ⟨n, h⟩
  | f + 1, c, n, h => by
    obtain ⟨h1, _⟩ := h.round hn
    unfold classF
    split
    · exact ⟨_, h1⟩
    · exact classF_ok T hn f _ _ h1
theorem classes_ok {T : Tb} (h : VT T) : ∃ n, ClOk T (classes T) n := classF_ok T h.le30 40 _ _ (ClOk.start h)
theorem wRow_ok {T : Tb} (hev : ∀ r : Int × Int, True) (word : List Int) : ∀ (rs : List (Int × Int)) (e : Nat) (L : List (Int × List Int)), (∀ r ∈ rs, r.1 < T.st) → WOk T L → word.length < L.length → WOk T (wRow word e rs L) ∧ L.length ≤ (wRow word e rs L).length
  | [], e, L, _, h, _ => ⟨h, Nat.le_refl _⟩
  | r :: rs, e, L, hr, h, hw => by
    rw [wRow_cons]
    unfold wStep
    split
    · rename_i hc
      have h1 := h.step r.1 (word ++ [(e : Int)]) hc.1 (hr r (by simp)) hc.2 (by rw [List.length_append, List.length_singleton]; omega)
      obtain ⟨h2, h3⟩ := wRow_ok hev word rs (e + 1) _ (fun x hx => hr x (by simp [hx])) h1 (by rw [List.length_append]; omega)
      exact ⟨h2, by rw [List.length_append] at h3; omega⟩
    · exact wRow_ok hev word rs (e + 1) L (fun x hx => hr x (by simp [hx])) h hw
def memF (cls : List Int) : List Int → List Int → List Int
  | [], mem => mem
  | s :: o, mem => memF cls o (if gI cls s ∈ mem.map (gI cls) then mem else mem ++ [s])
theorem memF_snoc (cls : List Int) (s : Int) : ∀ (o mem : List Int), memF cls (o ++ [s]) mem = if gI cls s ∈ (memF cls o mem).map (gI cls) then memF cls o mem else memF cls o mem ++ [s]
  | [], mem => rfl
  | x :: o, mem => by
    show memF cls (o ++ [s]) _ = _
    rw [memF_snoc cls s o]; rfl
theorem memF_take (cls o : List Int) (i : Nat) (h : i < o.length) : memF cls (o.take (i + 1)) [] = if gI cls o[i] ∈ (memF cls (o.take i) []).map (gI cls) then memF cls (o.take i) [] else memF cls (o.take i) [] ++ [o[i]] := by
  rw [List.take_succ_eq_append_getElem h, memF_snoc]
theorem memF_mem (cls : List Int) : ∀ (o mem : List Int) (x : Int), x ∈ memF cls o mem → x ∈ mem ∨ x ∈ o
  | [], mem, x, h => .inl h
  | s :: o, mem, x, h => by
    rcases memF_mem cls o _ x h with h | h
    · split at h
      · exact .inl h
      · rcases List.mem_append.mp h with h | h
        · exact .inl h
        · simp at h; subst h; exact .inr (by simp)
    · exact .inr (by simp [h])
theorem memF_len (cls : List Int) : ∀ (o mem : List Int), (memF cls o mem).length ≤ mem.length + o.length
  | [], mem => by simp [memF]
  | s :: o, mem => by
    have := memF_len cls o (if gI cls s ∈ mem.map (gI cls) then mem else mem ++ [s])
    show (memF cls o _).length ≤ _
    split at this <;> rename_i h
    · rw [if_pos h]; simp; omega
    · rw [if_neg h]; simp at this ⊢; omega
def mems (T : Tb) : List Int := memF (classes T) (orderT T) []
def leastR (cls keys : List Int) (r : Int × Int) : Int × Int := if 0 ≤ r.1 then ((if gI cls r.1 ∈ keys then (keys.idxOf (gI cls r.1) : Int) else 0), r.2) else r
def leastRows (T : Tb) : List (List (Int × Int)) := (mems T).map fun s => (T.rows.getD s.toNat []).map (leastR (classes T) ((mems T).map (gI (classes T))))
def leastT (T : Tb) : Tb := ⟨((mems T).length : Int), T.ev, 0, leastRows T⟩
end Go.Proofs.Ytnggimkkjdipmaa
namespace Go.Proofs.Ytnggimkkjdipmaa
open Go.RowKit
set_option linter.unusedVariables false
set_option linter.unusedSimpArgs false
/-! ### Product, plain: a walk by breadth over pairs of states -/
def linkF (join : List (Int × Int)) (out : Int) : Option Int := (join.find? fun p => p.1 == out).map (·.2)
def nextB (U : Tb) (join : List (Int × Int)) (b out : Int) : Int := match linkF join out with | none => b | some e => (U.at b e).1
def prodRow (U : Tb) (join : List (Int × Int)) (b : Int) : List (Int × Int) → List (Int × Int) → Option (List (Int × Int))
  | [], L => some L
  | r :: rs, L => if r.1 < 0 then prodRow U join b rs L else if nextB U join b r.2 < 0 then none else prodRow U join b rs (if (r.1, nextB U join b r.2) ∈ L then L else L ++ [(r.1, nextB U join b r.2)])
def prodF (T U : Tb) (join : List (Int × Int)) : Nat → Nat → List (Int × Int) → Option (List (Int × Int))
  | 0, _, L => some L
  | f + 1, i, L => if i < L.length then (prodRow U join (L.getD i (0, 0)).2 (T.rows.getD (L.getD i (0, 0)).1.toNat []) L).bind (prodF T U join f (i + 1)) else some L
def prodT (T U : Tb) (join : List (Int × Int)) : Option (List (Int × Int)) := prodF T U join 1000 0 [(T.sr, U.sr)]
def prodI (x : Option (List (Int × Int))) : Int := match x with | none => -1 | some L => (L.length : Int)
def joinOk (U : Tb) (join : List (Int × Int)) : Bool := !join.any fun p => decide (p.2 < 0) || decide (U.ev ≤ p.2)
def productF (T U : Tb) (join : List (Int × Int)) : Int × Int := if validT T && validT U && joinOk U join then (prodI (prodT T U join), 0) else (0, 1)
structure PrOk (T U : Tb) (L : List (Int × Int)) : Prop where
  nd : L.Nodup
  rng : ∀ x ∈ L, 0 ≤ x.1 ∧ x.1 < T.st ∧ 0 ≤ x.2 ∧ x.2 < U.st
theorem PrOk.le {T U : Tb} {L : List (Int × Int)} (h : PrOk T U L) (h1 : T.st ≤ 30) (h2 : U.st ≤ 30) : L.length ≤ 900 := by
  have := pigeon (L.map fun x => x.1 * 30 + x.2) ((List.range 900).map fun n : Nat => (n : Int)) ?_ (fun x hx => by
    obtain ⟨y, hy, rfl⟩ := List.mem_map.mp hx
    have := h.rng y hy
    exact List.mem_map.mpr ⟨(y.1 * 30 + y.2).toNat, List.mem_range.mpr (by omega), by show (((y.1 * 30 + y.2).toNat : Nat) : Int) = _; omega⟩)
  · simpa using this
  · rw [List.Nodup, List.pairwise_map]
    refine List.Pairwise.imp_of_mem ?_ h.nd
    intro a b ha hb hab e
    have h3 := h.rng a ha
    have h4 := h.rng b hb
    apply hab
    have h5 : a.1 = b.1 := by omega
    have h6 : a.2 = b.2 := by omega
    exact Prod.ext h5 h6
theorem PrOk.step {T U : Tb} {L : List (Int × Int)} (h : PrOk T U L) (x : Int × Int) (hr : 0 ≤ x.1 ∧ x.1 < T.st ∧ 0 ≤ x.2 ∧ x.2 < U.st) (hn : x ∉ L) : PrOk T U (L ++ [x]) := by
  refine ⟨?_, fun y hy => ?_⟩
  · rw [List.nodup_append]
    refine ⟨h.nd, by simp, fun a ha b hb => ?_⟩
    simp at hb; subst hb
    rintro rfl
    exact hn ha
  · rcases List.mem_append.mp hy with hy | hy
    · exact h.rng y hy
    · simp at hy; subst hy; exact hr
theorem PrOk.start {T U : Tb} (h : VT T) (k : VT U) : PrOk T U [(T.sr, U.sr)] :=
  ⟨by simp, fun x hx => by simp at hx; subst hx; exact ⟨h.sr.1, h.sr.2, k.sr.1, k.sr.2⟩⟩
theorem prodF_more (T U : Tb) (join : List (Int × Int)) (f i : Nat) (L : List (Int × Int)) (h : L.length ≤ i) : prodF T U join f i L = some L := by
  cases f with
  | zero => rfl
  | succ f => unfold prodF; rw [if_neg (by omega)]
end Go.Proofs.Ytnggimkkjdipmaa
