import Derived.Test.YtehmfnpiidcbpaaGP3
namespace Go.Proofs.Ytehmfnpiidcbpaa
set_option linter.unusedVariables false
set_option linter.unusedSimpArgs false
/-! ### The root of a constraint, plain -/
mutual
def Nd.rt : Nd → Nd
  | .mk op lo hi ks => if op = 5 then (rtL ks).headD (.mk 5 lo hi []) else .mk op lo hi (rtL ks)
def rtL : List Nd → List Nd
  | [] => []
  | k :: ks => k.rt :: rtL ks
end
theorem rtL_map : ∀ l : List Nd, rtL l = l.map Nd.rt
  | [] => rfl
  | k :: l => by simp only [rtL, List.map_cons, rtL_map l]
theorem Nd.rt_eq (n : Nd) : n.rt = if n.op = 5 then (n.kids.map Nd.rt).headD (.mk 5 n.lo n.hi []) else .mk n.op n.lo n.hi (n.kids.map Nd.rt) := by
  obtain ⟨op, lo, hi, ks⟩ := n
  rw [Nd.rt, rtL_map]; rfl
theorem rt_5 {n : Nd} (h : n.op = 5) (hk : 0 < n.kids.length) : n.rt = n.kids[0].rt := by
  rw [n.rt_eq, if_pos h]
  obtain ⟨op, lo, hi, ks⟩ := n
  cases ks with
  | nil => simp [Nd.kids] at hk
  | cons k l => rfl
theorem rt_else {n : Nd} (h : n.op ≠ 5) : n.rt = .mk n.op n.lo n.hi (n.kids.map Nd.rt) := by rw [n.rt_eq, if_neg h]
theorem nodesL_map (f : Nd → Nd) : ∀ l : List Nd, (∀ k ∈ l, (f k).nodes ≤ k.nodes) → nodesL (l.map f) ≤ nodesL l
  | [], _ => by simp [nodesL]
  | k :: l, h => by
    have h1 := h k (by simp)
    have h2 := nodesL_map f l (fun k hk => h k (by simp [hk]))
    simp only [List.map_cons, nodesL]; omega
theorem deepL_map (f : Nd → Nd) : ∀ l : List Nd, (∀ k ∈ l, (f k).deep ≤ k.deep) → deepL (l.map f) ≤ deepL l
  | [], _ => by simp [deepL]
  | k :: l, h => by
    have h1 := h k (by simp)
    have h2 := deepL_map f l (fun k hk => h k (by simp [hk]))
    simp only [List.map_cons, deepL]; omega
theorem deepL_mem : ∀ {l : List Nd} {k : Nd}, k ∈ l → k.deep ≤ deepL l
  | k' :: l, k, h => by
    simp only [deepL]
    rcases List.mem_cons.1 h with rfl | h
    · omega
    · have := deepL_mem h; omega
/-- The root is as well shaped, no larger, and has the same set. -/
structure RtOk (n : Nd) : Prop where
  sh : n.rt.sh = true
  nodes : n.rt.nodes ≤ n.nodes
  deep : n.rt.deep ≤ n.deep
  hold : ∀ x, n.rt.hold x = n.hold x
theorem rt_ok : ∀ (N : Nat) (n : Nd), n.nodes ≤ N → n.sh = true → RtOk n
  | 0, n, hN, _ => by have := nodes_pos n; omega
  | N + 1, n, hN, hs => by
    have ih : ∀ k ∈ n.kids, RtOk k := fun k hk => by
      obtain ⟨i, hi, rfl⟩ := List.getElem_of_mem hk
      exact rt_ok N _ (by have := kid_lt hi; omega) (sh_kid hs hk)
    by_cases h5 : n.op = 5
    · have hk := (sh_kids hs (by omega)).1
      have hk1 : n.kids.length = 1 := by
        unfold kidsOk at hk
        rw [if_neg (by omega), if_neg (by omega), if_neg (by omega), if_pos h5] at hk
        exact of_decide_eq_true hk
      have h0 : 0 < n.kids.length := by omega
      have I := ih n.kids[0] (List.getElem_mem _)
      rw [show RtOk n ↔ RtOk n from Iff.rfl]
      refine ⟨by rw [rt_5 h5 h0]; exact I.sh, ?_, ?_, fun x => ?_⟩
      · rw [rt_5 h5 h0]; have := I.nodes; have := kid_lt h0; omega
      · rw [rt_5 h5 h0]; have := I.deep; have := deepL_mem (List.getElem_mem h0); rw [n.deep_eq]; omega
      · rw [rt_5 h5 h0, I.hold, n.hold_eq, if_neg (by omega), if_neg (by omega), if_neg (by omega), if_neg (by omega), if_pos h5]
        rw [List.getD_eq_getElem?_getD, List.getElem?_map, List.getElem?_eq_getElem h0]; rfl
    · have e := rt_else h5
      have eop : n.rt.op = n.op := by rw [e]; rfl
      have elo : n.rt.lo = n.lo := by rw [e]; rfl
      have ehi : n.rt.hi = n.hi := by rw [e]; rfl
      have eks : n.rt.kids = n.kids.map Nd.rt := by rw [e]; rfl
      have em : ∀ x, (n.kids.map Nd.rt).map (Nd.hold x) = n.kids.map (Nd.hold x) := fun x => by
        rw [List.map_map]
        exact List.map_congr_left fun k hk => (ih k hk).hold x
      refine ⟨?_, ?_, ?_, fun x => ?_⟩
      · have ea : (n.kids.map Nd.rt).all Nd.sh = n.kids.all Nd.sh := by
          rw [List.all_map, Bool.eq_iff_iff, List.all_eq_true, List.all_eq_true]
          exact ⟨fun h k hk => sh_kid hs hk, fun h k hk => (ih k hk).sh⟩
        rw [Nd.sh_eq, eop, elo, ehi, eks, List.length_map, ea, ← Nd.sh_eq]
        exact hs
      · rw [n.rt.nodes_eq, n.nodes_eq, eks]
        have := nodesL_map Nd.rt n.kids (fun k hk => (ih k hk).nodes)
        omega
      · rw [n.rt.deep_eq, n.deep_eq, eks]
        have := deepL_map Nd.rt n.kids (fun k hk => (ih k hk).deep)
        omega
      · rw [Nd.hold_eq, n.hold_eq, eop, elo, ehi, eks, em]
        have e1 : ∀ l : List Nd, l.any (Nd.hold x) = (l.map (Nd.hold x)).any id := fun l => by rw [List.any_map]; rfl
        have e2 : ∀ l : List Nd, l.all (Nd.hold x) = (l.map (Nd.hold x)).all id := fun l => by rw [List.all_map]; rfl
        rw [e1, e2, e1 n.kids, e2 n.kids, em]
theorem rt_chk {n : Nd} (h : chkF n = 0) : chkF n.rt = 0 := by
  unfold chkF at h ⊢
  by_cases h1 : 200 < n.nodes ∨ 20 < n.deep
  · rw [if_pos h1] at h; omega
  · rw [if_neg h1] at h
    by_cases h2 : n.sh = true
    · have R := rt_ok n.nodes n (Nat.le_refl _) h2
      have := R.nodes
      have := R.deep
      rw [if_neg (by omega), if_pos R.sh]
    · rw [if_neg h2] at h; omega
end Go.Proofs.Ytehmfnpiidcbpaa
