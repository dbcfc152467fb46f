import Derived.Test.YtnggimkkjdipmaaTP5
namespace Go.Proofs.Ytnggimkkjdipmaa
open Go.RowKit
set_option linter.unusedVariables false
set_option linter.unusedSimpArgs false
/-! ### Product, plain: a walk by breadth over pairs of states -/
def linkF (join : List (Int × Int)) (out : Int) : Option Int := (join.find? fun p => p.1 == out).map (·.2)
def nextB (U : Tb) (join : List (Int × Int)) (b out : Int) : Int := match linkF join out with | none => b | some e => (U.at b e).1
def prodRow (U : Tb) (join : List (Int × Int)) (b : Int) : List (Int × Int) → List (Int × Int) → Option (List (Int × Int))
  | [], L => some L
  | r :: rs, L => if r.1 < 0 then prodRow U join b rs L else if nextB U join b r.2 < 0 then none else prodRow U join b rs (if (r.1, nextB U join b r.2) ∈ L then L else L ++ [(r.1, nextB U join b r.2)])
def prodF (T U : Tb) (join : List (Int × Int)) : Nat → Nat → List (Int × Int) → Option (List (Int × Int))
  | 0, _, L => some L
  | f + 1, i, L => if i < L.length then (prodRow U join (L.getD i (0, 0)).2 (T.rows.getD (L.getD i (0, 0)).1.toNat []) L).bind (prodF T U join f (i + 1)) else some L
def prodT (T U : Tb) (join : List (Int × Int)) : Option (List (Int × Int)) := prodF T U join 1000 0 [(T.sr, U.sr)]
def prodI (x : Option (List (Int × Int))) : Int := match x with | none => -1 | some L => (L.length : Int)
def joinOk (U : Tb) (join : List (Int × Int)) : Bool := !join.any fun p => decide (p.2 < 0) || decide (U.ev ≤ p.2)
def productF (T U : Tb) (join : List (Int × Int)) : Int × Int := if validT T && validT U && joinOk U join then (prodI (prodT T U join), 0) else (0, 1)
structure PrOk (T U : Tb) (L : List (Int × Int)) : Prop where
  nd : L.Nodup
  rng : ∀ x ∈ L, 0 ≤ x.1 ∧ x.1 < T.st ∧ 0 ≤ x.2 ∧ x.2 < U.st
theorem PrOk.le {T U : Tb} {L : List (Int × Int)} (h : PrOk T U L) (h1 : T.st ≤ 30) (h2 : U.st ≤ 30) : L.length ≤ 900 := by
  have := pigeon (L.map fun x => x.1 * 30 + x.2) ((List.range 900).map fun n : Nat => (n : Int)) ?_ (fun x hx => by
    obtain ⟨y, hy, rfl⟩ := List.mem_map.mp hx
    have := h.rng y hy
    exact List.mem_map.mpr ⟨(y.1 * 30 + y.2).toNat, List.mem_range.mpr (by omega), by show (((y.1 * 30 + y.2).toNat : Nat) : Int) = _; omega⟩)
  · simpa using this
  · rw [List.Nodup, List.pairwise_map]
    refine List.Pairwise.imp_of_mem ?_ h.nd
    intro a b ha hb hab e
    have h3 := h.rng a ha
    have h4 := h.rng b hb
    apply hab
    have h5 : a.1 = b.1 := by omega
    have h6 : a.2 = b.2 := by omega
    exact Prod.ext h5 h6
theorem PrOk.step {T U : Tb} {L : List (Int × Int)} (h : PrOk T U L) (x : Int × Int) (hr : 0 ≤ x.1 ∧ x.1 < T.st ∧ 0 ≤ x.2 ∧ x.2 < U.st) (hn : x ∉ L) : PrOk T U (L ++ [x]) := by
  refine ⟨?_, fun y hy => ?_⟩
  · rw [List.nodup_append]
    refine ⟨h.nd, by simp, fun a ha b hb => ?_⟩
    simp at hb; subst hb
    rintro rfl
    exact hn ha
  · rcases List.mem_append.mp hy with hy | hy
    · exact h.rng y hy
    · simp at hy; subst hy; exact hr
theorem PrOk.start {T U : Tb} (h : VT T) (k : VT U) : PrOk T U [(T.sr, U.sr)] :=
  ⟨by simp, fun x hx => by simp at hx; subst hx; exact ⟨h.sr.1, h.sr.2, k.sr.1, k.sr.2⟩⟩
theorem prodF_more (T U : Tb) (join : List (Int × Int)) (f i : Nat) (L : List (Int × Int)) (h : L.length ≤ i) : prodF T U join f i L = some L := by
  cases f with
  | zero => rfl
  | succ f => unfold prodF; rw [if_neg (by omega)]
end Go.Proofs.Ytnggimkkjdipmaa
