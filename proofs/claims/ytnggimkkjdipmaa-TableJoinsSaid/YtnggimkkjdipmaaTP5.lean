import Derived.Test.YtnggimkkjdipmaaTP4
namespace Go.Proofs.Ytnggimkkjdipmaa
open Go.RowKit
set_option linter.unusedVariables false
set_option linter.unusedSimpArgs false
/-! ### least, plain -/
theorem VT.le30 {T : Tb} (h : VT T) : T.rows.length ≤ 30 := by have := h.st; have := h.rows; omega
theorem classF_ok (T : Tb) (hn : T.rows.length ≤ 30) : ∀ (f : Nat) (c : List Int) (n : Nat), ClOk T c n → ∃ n', ClOk T (classF T f c n) n'
  | 0, c, n, h => ⟨n, h⟩
  | f + 1, c, n, h => by
    obtain ⟨h1, _⟩ := h.round hn
    unfold classF
    split
    · exact ⟨_, h1⟩
    · exact classF_ok T hn f _ _ h1
theorem classes_ok {T : Tb} (h : VT T) : ∃ n, ClOk T (classes T) n := classF_ok T h.le30 40 _ _ (ClOk.start h)
theorem wRow_ok {T : Tb} (hev : ∀ r : Int × Int, True) (word : List Int) : ∀ (rs : List (Int × Int)) (e : Nat) (L : List (Int × List Int)), (∀ r ∈ rs, r.1 < T.st) → WOk T L → word.length < L.length → WOk T (wRow word e rs L) ∧ L.length ≤ (wRow word e rs L).length
  | [], e, L, _, h, _ => ⟨h, Nat.le_refl _⟩
  | r :: rs, e, L, hr, h, hw => by
    rw [wRow_cons]
    unfold wStep
    split
    · rename_i hc
      have h1 := h.step r.1 (word ++ [(e : Int)]) hc.1 (hr r (by simp)) hc.2 (by rw [List.length_append, List.length_singleton]; omega)
      obtain ⟨h2, h3⟩ := wRow_ok hev word rs (e + 1) _ (fun x hx => hr x (by simp [hx])) h1 (by rw [List.length_append]; omega)
      exact ⟨h2, by rw [List.length_append] at h3; omega⟩
    · exact wRow_ok hev word rs (e + 1) L (fun x hx => hr x (by simp [hx])) h hw
def memF (cls : List Int) : List Int → List Int → List Int
  | [], mem => mem
  | s :: o, mem => memF cls o (if gI cls s ∈ mem.map (gI cls) then mem else mem ++ [s])
theorem memF_snoc (cls : List Int) (s : Int) : ∀ (o mem : List Int), memF cls (o ++ [s]) mem = if gI cls s ∈ (memF cls o mem).map (gI cls) then memF cls o mem else memF cls o mem ++ [s]
  | [], mem => rfl
  | x :: o, mem => by
    show memF cls (o ++ [s]) _ = _
    rw [memF_snoc cls s o]; rfl
theorem memF_take (cls o : List Int) (i : Nat) (h : i < o.length) : memF cls (o.take (i + 1)) [] = if gI cls o[i] ∈ (memF cls (o.take i) []).map (gI cls) then memF cls (o.take i) [] else memF cls (o.take i) [] ++ [o[i]] := by
  rw [List.take_succ_eq_append_getElem h, memF_snoc]
theorem memF_mem (cls : List Int) : ∀ (o mem : List Int) (x : Int), x ∈ memF cls o mem → x ∈ mem ∨ x ∈ o
  | [], mem, x, h => .inl h
  | s :: o, mem, x, h => by
    rcases memF_mem cls o _ x h with h | h
    · split at h
      · exact .inl h
      · rcases List.mem_append.mp h with h | h
        · exact .inl h
        · simp at h; subst h; exact .inr (by simp)
    · exact .inr (by simp [h])
theorem memF_len (cls : List Int) : ∀ (o mem : List Int), (memF cls o mem).length ≤ mem.length + o.length
  | [], mem => by simp [memF]
  | s :: o, mem => by
    have := memF_len cls o (if gI cls s ∈ mem.map (gI cls) then mem else mem ++ [s])
    show (memF cls o _).length ≤ _
    split at this <;> rename_i h
    · rw [if_pos h]; simp; omega
    · rw [if_neg h]; simp at this ⊢; omega
def mems (T : Tb) : List Int := memF (classes T) (orderT T) []
def leastR (cls keys : List Int) (r : Int × Int) : Int × Int := if 0 ≤ r.1 then ((if gI cls r.1 ∈ keys then (keys.idxOf (gI cls r.1) : Int) else 0), r.2) else r
def leastRows (T : Tb) : List (List (Int × Int)) := (mems T).map fun s => (T.rows.getD s.toNat []).map (leastR (classes T) ((mems T).map (gI (classes T))))
def leastT (T : Tb) : Tb := ⟨((mems T).length : Int), T.ev, 0, leastRows T⟩
end Go.Proofs.Ytnggimkkjdipmaa
