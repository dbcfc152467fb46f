import Derived.Test.YtehmfnpiidcbpaaGP2
namespace Go.Proofs.Ytehmfnpiidcbpaa
set_option linter.unusedVariables false
set_option linter.unusedSimpArgs false
/-! ### Constraints as trees, plain -/
inductive Nd where
  | mk (op lo hi : Int) (kids : List Nd)
def Nd.op : Nd → Int | .mk o _ _ _ => o
def Nd.lo : Nd → Int | .mk _ l _ _ => l
def Nd.hi : Nd → Int | .mk _ _ h _ => h
def Nd.kids : Nd → List Nd | .mk _ _ _ k => k
theorem Nd.eta (n : Nd) : Nd.mk n.op n.lo n.hi n.kids = n := by cases n; rfl
mutual
def Nd.nodes : Nd → Nat
  | .mk _ _ _ ks => 1 + nodesL ks
def nodesL : List Nd → Nat
  | [] => 0
  | k :: ks => k.nodes + nodesL ks
end
mutual
def Nd.deep : Nd → Nat
  | .mk _ _ _ ks => deepL ks + 1
def deepL : List Nd → Nat
  | [] => 0
  | k :: ks => max k.deep (deepL ks)
end
theorem Nd.nodes_eq (n : Nd) : n.nodes = 1 + nodesL n.kids := by cases n; rfl
theorem Nd.deep_eq (n : Nd) : n.deep = deepL n.kids + 1 := by cases n; rfl
theorem nodesL_app : ∀ (a b : List Nd), nodesL (a ++ b) = nodesL a + nodesL b
  | [], b => by simp [nodesL]
  | k :: a, b => by have := nodesL_app a b; simp only [List.cons_append, nodesL]; omega
theorem deepL_app : ∀ (a b : List Nd), deepL (a ++ b) = max (deepL a) (deepL b)
  | [], b => by simp [deepL]
  | k :: a, b => by have := deepL_app a b; simp only [List.cons_append, deepL]; omega
theorem nodesL_take (l : List Nd) (i : Nat) (h : i < l.length) : nodesL (l.take (i + 1)) = nodesL (l.take i) + l[i].nodes := by
  rw [List.take_succ_eq_append_getElem h, nodesL_app]; simp [nodesL]
theorem deepL_take (l : List Nd) (i : Nat) (h : i < l.length) : deepL (l.take (i + 1)) = max (deepL (l.take i)) l[i].deep := by
  rw [List.take_succ_eq_append_getElem h, deepL_app]; simp [deepL]
theorem nodesL_take_le (l : List Nd) (i : Nat) : nodesL (l.take i) ≤ nodesL l := by
  have h := nodesL_app (l.take i) (l.drop i)
  rw [List.take_append_drop] at h
  omega
theorem nodes_pos (n : Nd) : 1 ≤ n.nodes := by rw [n.nodes_eq]; omega
theorem nodesL_mem {l : List Nd} {i : Nat} (h : i < l.length) : l[i].nodes ≤ nodesL l := by
  have h1 := nodesL_take l i h
  have h2 := nodesL_take_le l (i + 1)
  omega
theorem nodesL_len : ∀ l : List Nd, l.length ≤ nodesL l
  | [] => by simp
  | k :: l => by have := nodesL_len l; have := nodes_pos k; simp only [List.length_cons, nodesL]; omega
theorem kid_lt {n : Nd} {i : Nat} (h : i < n.kids.length) : n.kids[i].nodes < n.nodes := by
  have := nodesL_mem h
  rw [n.nodes_eq]; omega
mutual
theorem deep_le : ∀ n : Nd, n.deep ≤ n.nodes
  | .mk _ _ _ ks => by have := deepL_le ks; simp only [Nd.deep, Nd.nodes]; omega
theorem deepL_le : ∀ l : List Nd, deepL l ≤ nodesL l
  | [] => by simp [deepL]
  | k :: l => by have := deep_le k; have := deepL_le l; simp only [deepL, nodesL]; omega
end
theorem deepL_take_le (l : List Nd) (i : Nat) : deepL (l.take i) ≤ nodesL l := Nat.le_trans (deepL_le _) (nodesL_take_le l i)
/-! #### Shape -/
mutual
def Nd.sh : Nd → Bool
  | .mk op lo hi ks =>
    if op = 0 then decide (ks.length = 0) && (decide (lo ≤ hi) && (decide (-1000000000000000 ≤ lo) && decide (hi ≤ 1000000000000000)))
    else decide (lo = 0) && (decide (hi = 0) && ((if op = 1 ∨ op = 2 then decide (2 ≤ ks.length) else if op = 3 then decide (ks.length = 2) else if op = 4 then decide (ks.length = 0) else if op = 5 then decide (ks.length = 1) else false) && shL ks))
def shL : List Nd → Bool
  | [] => true
  | k :: ks => k.sh && shL ks
end
theorem shL_all : ∀ l : List Nd, shL l = l.all Nd.sh
  | [] => rfl
  | k :: l => by simp only [shL, List.all_cons, shL_all l]
/-- How many kids an operation has. -/
def kidsOk (op : Int) (n : Nat) : Bool := if op = 1 ∨ op = 2 then decide (2 ≤ n) else if op = 3 then decide (n = 2) else if op = 4 then decide (n = 0) else if op = 5 then decide (n = 1) else false
theorem Nd.sh_eq (n : Nd) : n.sh = if n.op = 0 then decide (n.kids.length = 0) && (decide (n.lo ≤ n.hi) && (decide (-1000000000000000 ≤ n.lo) && decide (n.hi ≤ 1000000000000000)))
    else decide (n.lo = 0) && (decide (n.hi = 0) && (kidsOk n.op n.kids.length && n.kids.all Nd.sh)) := by
  obtain ⟨op, lo, hi, ks⟩ := n
  rw [Nd.sh, shL_all]
  rfl
/-! #### What is in it -/
mutual
def Nd.hold (x : Int) : Nd → Bool
  | .mk op lo hi ks =>
    if op = 0 then decide (lo ≤ x) && decide (x ≤ hi)
    else if op = 1 then (holdL x ks).any id
    else if op = 2 then (holdL x ks).all id
    else if op = 3 then (holdL x ks).getD 0 false && !(holdL x ks).getD 1 false
    else if op = 5 then (holdL x ks).getD 0 false
    else decide (-1000000000000000 ≤ x) && decide (x ≤ 1000000000000000)
def holdL (x : Int) : List Nd → List Bool
  | [] => []
  | k :: ks => k.hold x :: holdL x ks
end
theorem holdL_map (x : Int) : ∀ l : List Nd, holdL x l = l.map (Nd.hold x)
  | [] => rfl
  | k :: l => by simp only [holdL, List.map_cons, holdL_map x l]
theorem Nd.hold_eq (x : Int) (n : Nd) : n.hold x = if n.op = 0 then decide (n.lo ≤ x) && decide (x ≤ n.hi)
    else if n.op = 1 then n.kids.any (Nd.hold x)
    else if n.op = 2 then n.kids.all (Nd.hold x)
    else if n.op = 3 then (n.kids.map (Nd.hold x)).getD 0 false && !(n.kids.map (Nd.hold x)).getD 1 false
    else if n.op = 5 then (n.kids.map (Nd.hold x)).getD 0 false
    else decide (-1000000000000000 ≤ x) && decide (x ≤ 1000000000000000) := by
  obtain ⟨op, lo, hi, ks⟩ := n
  simp only [Nd.hold, Nd.op, Nd.lo, Nd.hi, Nd.kids, holdL_map, List.any_map, List.all_map]
  rfl
theorem sh_op {n : Nd} (h : n.sh = true) : n.op = 0 ∨ n.op = 1 ∨ n.op = 2 ∨ n.op = 3 ∨ n.op = 4 ∨ n.op = 5 := by
  rw [n.sh_eq] at h
  by_cases h0 : n.op = 0
  · exact .inl h0
  · rw [if_neg h0] at h
    simp only [Bool.and_eq_true] at h
    have h2 := h.2.2.1
    unfold kidsOk at h2
    by_cases h1 : n.op = 1 ∨ n.op = 2
    · rcases h1 with h1 | h1 <;> simp [h1]
    · rw [if_neg h1] at h2
      by_cases h3 : n.op = 3
      · simp [h3]
      · rw [if_neg h3] at h2
        by_cases h4 : n.op = 4
        · simp [h4]
        · rw [if_neg h4] at h2
          by_cases h5 : n.op = 5
          · simp [h5]
          · rw [if_neg h5] at h2; cases h2
theorem sh_span {n : Nd} (h : n.sh = true) (h0 : n.op = 0) : n.kids = [] ∧ n.lo ≤ n.hi ∧ -1000000000000000 ≤ n.lo ∧ n.hi ≤ 1000000000000000 := by
  rw [n.sh_eq, if_pos h0] at h
  simp only [Bool.and_eq_true, decide_eq_true_eq] at h
  exact ⟨List.eq_nil_of_length_eq_zero h.1, h.2.1, h.2.2.1, h.2.2.2⟩
theorem sh_kids {n : Nd} (h : n.sh = true) (h0 : n.op ≠ 0) : kidsOk n.op n.kids.length = true ∧ ∀ k ∈ n.kids, k.sh = true := by
  rw [n.sh_eq, if_neg h0] at h
  simp only [Bool.and_eq_true, decide_eq_true_eq] at h
  exact ⟨h.2.2.1, List.all_eq_true.1 h.2.2.2⟩
theorem sh_kid {n : Nd} (h : n.sh = true) {k : Nd} (hk : k ∈ n.kids) : k.sh = true := by
  by_cases h0 : n.op = 0
  · rw [(sh_span h h0).1] at hk; cases hk
  · exact (sh_kids h h0).2 k hk
theorem hold_bd (x : Int) : ∀ (N : Nat) (n : Nd), n.nodes ≤ N → n.sh = true → n.hold x = true → -1000000000000000 ≤ x ∧ x ≤ 1000000000000000
  | 0, n, hN, _, _ => by have := nodes_pos n; omega
  | N + 1, n, hN, hs, hh => by
    have ih : ∀ k ∈ n.kids, k.hold x = true → -1000000000000000 ≤ x ∧ x ≤ 1000000000000000 := fun k hk h2 => by
      obtain ⟨i, hi, rfl⟩ := List.getElem_of_mem hk
      exact hold_bd x N _ (by have := kid_lt hi; omega) (sh_kid hs hk) h2
    rw [n.hold_eq] at hh
    have one : ∀ (l : List Nd), (∀ k ∈ l, k.hold x = true → -1000000000000000 ≤ x ∧ x ≤ 1000000000000000) → (l.map (Nd.hold x)).getD 0 false = true → -1000000000000000 ≤ x ∧ x ≤ 1000000000000000 := fun l hl h => by
      cases l with
      | nil => cases h
      | cons k l => exact hl k (by simp) h
    rcases sh_op hs with h | h | h | h | h | h
    · rw [if_pos h] at hh
      have := sh_span hs h
      simp only [Bool.and_eq_true, decide_eq_true_eq] at hh
      omega
    · rw [if_neg (by omega), if_pos h] at hh
      obtain ⟨k, hk, h2⟩ := List.any_eq_true.1 hh
      exact ih k hk h2
    · rw [if_neg (by omega), if_neg (by omega), if_pos h] at hh
      have hk := (sh_kids hs (by omega)).1
      unfold kidsOk at hk
      rw [if_pos (.inr h), decide_eq_true_eq] at hk
      exact ih n.kids[0] (List.getElem_mem _) (List.all_eq_true.1 hh _ (List.getElem_mem _))
    · rw [if_neg (by omega), if_neg (by omega), if_neg (by omega), if_pos h] at hh
      exact one _ ih (Bool.and_eq_true _ _ ▸ hh).1
    · rw [if_neg (by omega), if_neg (by omega), if_neg (by omega), if_neg (by omega), if_neg (by omega)] at hh
      simpa using hh
    · rw [if_neg (by omega), if_neg (by omega), if_neg (by omega), if_neg (by omega), if_pos h] at hh
      exact one _ ih hh
/-- The error of a constraint. -/
def chkF (n : Nd) : Int := if 200 < n.nodes ∨ 20 < n.deep then 2 else if n.sh = true then 0 else 1
end Go.Proofs.Ytehmfnpiidcbpaa
