import Derived.Test.YtehmfnpiidcbpaaGN1
namespace Go.Proofs.Ytehmfnpiidcbpaa
set_option linter.unusedVariables false
set_option linter.unusedSimpArgs false
/-! #### What the reference asks of a constraint to go through it -/
mutual
def Nd.wk : Nd → Bool
  | .mk op lo hi ks => (if op = 0 then decide (lo ≤ hi ∧ -1000000000000000 ≤ lo ∧ hi ≤ 1000000000000000) else if op = 2 then decide (1 ≤ ks.length) else if op = 3 then decide (2 ≤ ks.length) else if op = 5 then decide (1 ≤ ks.length) else true) && wkL ks
def wkL : List Nd → Bool
  | [] => true
  | k :: ks => k.wk && wkL ks
end
theorem wkL_all : ∀ l : List Nd, wkL l = l.all Nd.wk
  | [] => rfl
  | k :: l => by simp only [wkL, List.all_cons, wkL_all l]
theorem Nd.wk_eq (n : Nd) : n.wk = ((if n.op = 0 then decide (n.lo ≤ n.hi ∧ -1000000000000000 ≤ n.lo ∧ n.hi ≤ 1000000000000000) else if n.op = 2 then decide (1 ≤ n.kids.length) else if n.op = 3 then decide (2 ≤ n.kids.length) else if n.op = 5 then decide (1 ≤ n.kids.length) else true) && n.kids.all Nd.wk) := by
  obtain ⟨op, lo, hi, ks⟩ := n
  rw [Nd.wk, wkL_all]
  rfl
theorem wk_kid {n : Nd} (h : n.wk = true) {k : Nd} (hk : k ∈ n.kids) : k.wk = true := by
  rw [n.wk_eq, Bool.and_eq_true] at h
  exact List.all_eq_true.1 h.2 k hk
theorem wk_span {n : Nd} (h : n.wk = true) (h0 : n.op = 0) : n.lo ≤ n.hi ∧ -1000000000000000 ≤ n.lo ∧ n.hi ≤ 1000000000000000 := by
  rw [n.wk_eq, Bool.and_eq_true, if_pos h0] at h
  exact of_decide_eq_true h.1
theorem wk_2 {n : Nd} (h : n.wk = true) (h0 : n.op = 2) : 1 ≤ n.kids.length := by
  rw [n.wk_eq, Bool.and_eq_true, if_neg (by omega), if_pos h0] at h
  exact of_decide_eq_true h.1
theorem wk_3 {n : Nd} (h : n.wk = true) (h0 : n.op = 3) : 2 ≤ n.kids.length := by
  rw [n.wk_eq, Bool.and_eq_true, if_neg (by omega), if_neg (by omega), if_pos h0] at h
  exact of_decide_eq_true h.1
theorem wk_5 {n : Nd} (h : n.wk = true) (h0 : n.op = 5) : 1 ≤ n.kids.length := by
  rw [n.wk_eq, Bool.and_eq_true, if_neg (by omega), if_neg (by omega), if_neg (by omega), if_pos h0] at h
  exact of_decide_eq_true h.1
theorem sh_wk : ∀ (N : Nat) (n : Nd), n.nodes ≤ N → n.sh = true → n.wk = true
  | 0, n, hN, _ => by have := nodes_pos n; omega
  | N + 1, n, hN, hs => by
    rw [n.wk_eq, Bool.and_eq_true]
    refine ⟨?_, List.all_eq_true.2 fun k hk => ?_⟩
    · by_cases h0 : n.op = 0
      · rw [if_pos h0]
        have := sh_span hs h0
        exact decide_eq_true ⟨this.2.1, this.2.2.1, this.2.2.2⟩
      · rw [if_neg h0]
        have hk := (sh_kids hs h0).1
        unfold kidsOk at hk
        split
        · rename_i h; rw [if_pos (.inr h)] at hk; have := of_decide_eq_true hk; exact decide_eq_true (by omega)
        · split
          · rename_i h; rw [if_neg (by omega), if_pos h] at hk; have := of_decide_eq_true hk; exact decide_eq_true (by omega)
          · split
            · rename_i h; rw [if_neg (by omega), if_neg (by omega), if_neg (by omega), if_pos h] at hk; have := of_decide_eq_true hk; exact decide_eq_true (by omega)
            · rfl
    · obtain ⟨i, hi, rfl⟩ := List.getElem_of_mem hk
      exact sh_wk N _ (by have := kid_lt hi; omega) (sh_kid hs hk)
theorem hold_bdw (x : Int) : ∀ (N : Nat) (n : Nd), n.nodes ≤ N → n.wk = true → n.hold x = true → -1000000000000000 ≤ x ∧ x ≤ 1000000000000000
  | 0, n, hN, _, _ => by have := nodes_pos n; omega
  | N + 1, n, hN, hs, hh => by
    have ih : ∀ k ∈ n.kids, k.hold x = true → -1000000000000000 ≤ x ∧ x ≤ 1000000000000000 := fun k hk h2 => by
      obtain ⟨i, hi, rfl⟩ := List.getElem_of_mem hk
      exact hold_bdw x N _ (by have := kid_lt hi; omega) (wk_kid hs hk) h2
    rw [n.hold_eq] at hh
    have one : ∀ (l : List Nd), (∀ k ∈ l, k.hold x = true → -1000000000000000 ≤ x ∧ x ≤ 1000000000000000) → (l.map (Nd.hold x)).getD 0 false = true → -1000000000000000 ≤ x ∧ x ≤ 1000000000000000 := fun l hl h => by
      cases l with
      | nil => cases h
      | cons k l => exact hl k (by simp) h
    split at hh
    · rename_i h
      have := wk_span hs h
      simp only [Bool.and_eq_true, decide_eq_true_eq] at hh
      omega
    · split at hh
      · obtain ⟨k, hk, h2⟩ := List.any_eq_true.1 hh
        exact ih k hk h2
      · split at hh
        · rename_i h
          have hk := wk_2 hs h
          exact ih n.kids[0] (List.getElem_mem _) (List.all_eq_true.1 hh _ (List.getElem_mem _))
        · split at hh
          · exact one _ ih (Bool.and_eq_true _ _ ▸ hh).1
          · split at hh
            · exact one _ ih hh
            · simpa using hh
/-! ### The reference's way to a set: by the places where it can begin, plain -/
def putF (x : Int) : List Int → List Int
  | [] => [x]
  | y :: t => if x < y then x :: y :: t else if x = y then y :: t else y :: putF x t
theorem mem_putF (x z : Int) : ∀ l, z ∈ putF x l ↔ z = x ∨ z ∈ l
  | [] => by simp [putF]
  | y :: t => by
    unfold putF
    split
    · simp
    · split
      · rename_i h; subst h; simp
      · simp only [List.mem_cons, mem_putF x z t]
        constructor
        · rintro (h | h | h)
          · exact .inr (.inl h)
          · exact .inl h
          · exact .inr (.inr h)
        · rintro (h | h | h)
          · exact .inr (.inl h)
          · exact .inl h
          · exact .inr (.inr h)
theorem asc_putF (x : Int) : ∀ l : List Int, l.Pairwise (· < ·) → (putF x l).Pairwise (· < ·)
  | [], _ => by simp [putF]
  | y :: t, h => by
    unfold putF
    have h1 := List.pairwise_cons.1 h
    split
    · rename_i hlt
      refine List.pairwise_cons.2 ⟨fun z hz => ?_, h⟩
      rcases List.mem_cons.1 hz with rfl | hz
      · exact hlt
      · have := h1.1 z hz; omega
    · split
      · exact h
      · refine List.pairwise_cons.2 ⟨fun z hz => ?_, asc_putF x t h1.2⟩
        rcases (mem_putF x z t).1 hz with rfl | hz
        · omega
        · exact h1.1 z hz
theorem len_putF (x : Int) : ∀ l : List Int, (putF x l).length ≤ l.length + 1
  | [] => by simp [putF]
  | y :: t => by
    unfold putF
    split
    · simp
    · split
      · simp
      · have := len_putF x t; simp; omega
/-- What put has put out and still puts: done says that x has been met. -/
def putI (x : Int) (done : Bool) (l : List Int) : List Int := if done then l else putF x l
mutual
def Nd.pl : Nd → List Int → List Int
  | .mk op lo hi ks, l => plL ks (if op = 0 then putF (hi + 1) (putF lo l) else l)
def plL : List Nd → List Int → List Int
  | [], l => l
  | k :: ks, l => plL ks (k.pl l)
end
theorem Nd.pl_eq (n : Nd) (l : List Int) : n.pl l = plL n.kids (if n.op = 0 then putF (n.hi + 1) (putF n.lo l) else l) := by cases n; rfl
theorem plL_app : ∀ (a b : List Nd) (l : List Int), plL (a ++ b) l = plL b (plL a l)
  | [], b, l => rfl
  | k :: a, b, l => by simp only [List.cons_append, plL]; exact plL_app a b _
theorem plL_take (ks : List Nd) (l : List Int) (i : Nat) (h : i < ks.length) : plL (ks.take (i + 1)) l = ks[i].pl (plL (ks.take i) l) := by
  rw [List.take_succ_eq_append_getElem h, plL_app]; rfl
mutual
theorem pl_asc : ∀ (n : Nd) (l : List Int), l.Pairwise (· < ·) → (n.pl l).Pairwise (· < ·)
  | .mk op lo hi ks, l, h => by
    rw [Nd.pl]
    refine plL_asc ks _ ?_
    split
    · exact asc_putF _ _ (asc_putF _ _ h)
    · exact h
theorem plL_asc : ∀ (ks : List Nd) (l : List Int), l.Pairwise (· < ·) → (plL ks l).Pairwise (· < ·)
  | [], l, h => h
  | k :: ks, l, h => plL_asc ks _ (pl_asc k l h)
end
mutual
theorem pl_len : ∀ (n : Nd) (l : List Int), (n.pl l).length ≤ l.length + 2 * n.nodes
  | .mk op lo hi ks, l => by
    rw [Nd.pl, Nd.nodes]
    have := plL_len ks (if op = 0 then putF (hi + 1) (putF lo l) else l)
    split at this
    · have h1 := len_putF (hi + 1) (putF lo l)
      have h2 := len_putF lo l
      rename_i h0
      rw [if_pos h0]
      omega
    · rename_i h0
      rw [if_neg h0]
      omega
theorem plL_len : ∀ (ks : List Nd) (l : List Int), (plL ks l).length ≤ l.length + 2 * nodesL ks
  | [], l => by simp [plL]
  | k :: ks, l => by
    rw [plL, nodesL]
    have := plL_len ks (k.pl l)
    have := pl_len k l
    omega
end
mutual
theorem pl_old : ∀ (n : Nd) (l : List Int) (z : Int), z ∈ l → z ∈ n.pl l
  | .mk op lo hi ks, l, z, h => by
    rw [Nd.pl]
    refine plL_old ks _ z ?_
    split
    · rw [mem_putF, mem_putF]; exact .inr (.inr h)
    · exact h
theorem plL_old : ∀ (ks : List Nd) (l : List Int) (z : Int), z ∈ l → z ∈ plL ks l
  | [], l, z, h => h
  | k :: ks, l, z, h => plL_old ks _ z (pl_old k l z h)
end
/-- Where a span begins, and where what is behind it begins. -/
theorem pl_span {n : Nd} (h : n.op = 0) (l : List Int) : n.lo ∈ n.pl l ∧ n.hi + 1 ∈ n.pl l := by
  rw [n.pl_eq, if_pos h]
  exact ⟨plL_old _ _ _ (by rw [mem_putF, mem_putF]; exact .inr (.inl rfl)), plL_old _ _ _ (by rw [mem_putF]; exact .inl rfl)⟩
mutual
/-- A place comes from the list or from a span. -/
theorem pl_bd (a b : Int) : ∀ (n : Nd) (l : List Int), n.wk = true → (∀ z ∈ l, a ≤ z ∧ z ≤ b) → a ≤ -1000000000000000 → 1000000000000001 ≤ b → ∀ z ∈ n.pl l, a ≤ z ∧ z ≤ b
  | .mk op lo hi ks, l, hs, h, ha, hb => by
    rw [Nd.pl]
    refine plL_bd a b ks _ (fun k hk => wk_kid hs hk) ?_ ha hb
    intro z hz
    split at hz
    · rename_i h0
      have h1 := wk_span hs h0
      simp only [Nd.lo, Nd.hi] at h1
      rw [mem_putF, mem_putF] at hz
      rcases hz with rfl | rfl | hz
      · omega
      · omega
      · exact h z hz
    · exact h z hz
theorem plL_bd (a b : Int) : ∀ (ks : List Nd) (l : List Int), (∀ k ∈ ks, k.wk = true) → (∀ z ∈ l, a ≤ z ∧ z ≤ b) → a ≤ -1000000000000000 → 1000000000000001 ≤ b → ∀ z ∈ plL ks l, a ≤ z ∧ z ≤ b
  | [], l, _, h, _, _ => h
  | k :: ks, l, hs, h, ha, hb => by
    rw [plL]
    exact plL_bd a b ks _ (fun k' hk => hs k' (by simp [hk])) (pl_bd a b k l (hs k (by simp)) h ha hb) ha hb
end
/-- All spans of n begin and end at places of L. -/
def Cov (L : List Int) : Nat → Nd → Prop
  | 0, _ => True
  | N + 1, n => (n.op = 0 → n.lo ∈ L ∧ n.hi + 1 ∈ L) ∧ ∀ k ∈ n.kids, Cov L N k
theorem plL_mem (z : Int) : ∀ (ks : List Nd) (l : List Int) (k : Nd), k ∈ ks → (∀ l', z ∈ k.pl l') → z ∈ plL ks l
  | [], _, _, h, _ => by cases h
  | k' :: ks, l, k, h, hz => by
    rw [plL]
    rcases List.mem_cons.1 h with rfl | h
    · exact plL_old _ _ _ (hz l)
    · exact plL_mem z ks _ k h hz
theorem cov_of : ∀ (N : Nat) (n : Nd) (L : List Int), (∀ z, (∀ l, z ∈ n.pl l) → z ∈ L) → Cov L N n
  | 0, _, _, _ => trivial
  | N + 1, n, L, h => by
    refine ⟨fun h0 => ⟨h _ fun l => (pl_span h0 l).1, h _ fun l => (pl_span h0 l).2⟩, fun k hk => cov_of N k L fun z hz => h z fun l => ?_⟩
    rw [n.pl_eq]
    exact plL_mem z _ _ k hk hz
/-- Between two places nothing changes. -/
theorem hold_same (L : List Int) (x y : Int) (hxy : x ≤ y) (hn : ∀ p ∈ L, ¬ (x < p ∧ p ≤ y)) (h1 : -1000000000000000 ∈ L) (h2 : 1000000000000001 ∈ L) :
    ∀ (N : Nat) (n : Nd), n.nodes ≤ N → Cov L N n → n.hold x = n.hold y
  | 0, n, hN, _ => by have := nodes_pos n; omega
  | N + 1, n, hN, hc => by
    have ih : ∀ k ∈ n.kids, k.hold x = k.hold y := fun k hk => by
      obtain ⟨i, hi, rfl⟩ := List.getElem_of_mem hk
      exact hold_same L x y hxy hn h1 h2 N _ (by have := kid_lt hi; omega) (hc.2 _ hk)
    have em : n.kids.map (Nd.hold x) = n.kids.map (Nd.hold y) := List.map_congr_left ih
    have ea : n.kids.any (Nd.hold x) = n.kids.any (Nd.hold y) := by
      rw [show n.kids.any (Nd.hold x) = (n.kids.map (Nd.hold x)).any id by rw [List.any_map]; rfl, em, List.any_map]; rfl
    have el : n.kids.all (Nd.hold x) = n.kids.all (Nd.hold y) := by
      rw [show n.kids.all (Nd.hold x) = (n.kids.map (Nd.hold x)).all id by rw [List.all_map]; rfl, em, List.all_map]; rfl
    rw [n.hold_eq x, n.hold_eq y, em, ea, el]
    have key : ∀ a b : Int, a ∈ L → b + 1 ∈ L → (decide (a ≤ x) && decide (x ≤ b)) = (decide (a ≤ y) && decide (y ≤ b)) := fun a b ha hb => by
      have e1 := hn a ha
      have e2 := hn (b + 1) hb
      rw [Bool.eq_iff_iff]
      simp only [Bool.and_eq_true, decide_eq_true_eq]
      omega
    split
    · rename_i h0
      exact key _ _ (hc.1 h0).1 (hc.1 h0).2
    · rw [key (-1000000000000000) 1000000000000000 h1 h2]
/-! #### The set, place by place -/
theorem Nf.snoc {l : List Rg} {r : Rg} (h : Nf l) (h1 : r.1 ≤ r.2) (h2 : ∀ q ∈ l, q.2 + 2 ≤ r.1) : Nf (l ++ [r]) := by
  refine ⟨fun q hq => ?_, ?_⟩
  · rcases List.mem_append.1 hq with h3 | h3
    · exact h.1 q h3
    · obtain rfl := List.mem_singleton.1 h3; exact h1
  · rw [List.pairwise_append]
    refine ⟨h.2, by simp, fun a ha b hb => ?_⟩
    obtain rfl := List.mem_singleton.1 hb
    exact h2 a ha
theorem Nf.init {l : List Rg} {r : Rg} (h : Nf (l ++ [r])) : Nf l ∧ r.1 ≤ r.2 ∧ ∀ q ∈ l, q.2 + 2 ≤ r.1 := by
  have h2 := List.pairwise_append.1 h.2
  exact ⟨⟨fun q hq => h.1 q (by simp [hq]), h2.1⟩, h.1 r (by simp), fun q hq => h2.2.2 q hq r (by simp)⟩
theorem inS_onep (a b x : Int) : inS [(a, b)] x ↔ a ≤ x ∧ x ≤ b := by simp [inS]
/-- What has been made of the first i places. -/
structure SetI (h : Int → Bool) (a b : Int) (out : List Rg) : Prop where
  nf : Nf out
  num : ∀ x, inS out x ↔ a ≤ x ∧ x < b ∧ h x = true
theorem SetI.start (h : Int → Bool) (a : Int) : SetI h a a [] := ⟨Nf.nil, fun x => ⟨fun e => absurd e (inS_nil x), fun e => by omega⟩⟩
theorem SetI.skip {h : Int → Bool} {a b c : Int} {out : List Rg} (I : SetI h a b out) (hbc : b < c) (hs : ∀ x, b ≤ x → x < c → h x = h b) (hb : h b = false) : SetI h a c out := by
  refine ⟨I.nf, fun x => ?_⟩
  rw [I.num]
  constructor
  · rintro ⟨h1, h2, h3⟩; exact ⟨h1, by omega, h3⟩
  · rintro ⟨h1, h2, h3⟩
    by_cases hx : x < b
    · exact ⟨h1, hx, h3⟩
    · rw [hs x (by omega) h2, hb] at h3; cases h3
theorem SetI.ends {h : Int → Bool} {a b : Int} {out : List Rg} (I : SetI h a b out) {r : Rg} (hr : r ∈ out) : a ≤ r.1 ∧ r.2 < b := by
  have h1 := I.nf.1 r hr
  have e1 := (I.num r.1).1 ⟨r, hr, Int.le_refl _, h1⟩
  have e2 := (I.num r.2).1 ⟨r, hr, h1, Int.le_refl _⟩
  exact ⟨e1.1, e2.2.1⟩
theorem SetI.new {h : Int → Bool} {a b c : Int} {out : List Rg} (I : SetI h a b out) (hab : a ≤ b) (hbc : b < c) (hs : ∀ x, b ≤ x → x < c → h x = h b) (hb : h b = true) (hne : ∀ r ∈ out, r.2 ≠ b - 1) : SetI h a c (out ++ [(b, c - 1)]) := by
  refine ⟨I.nf.snoc (by show b ≤ c - 1; omega) fun q hq => ?_, fun x => ?_⟩
  · have := (I.ends hq).2
    have := hne q hq
    show q.2 + 2 ≤ b
    omega
  · rw [inS_app, I.num, inS_onep]
    constructor
    · rintro (⟨h1, h2, h3⟩ | ⟨h1, h2⟩)
      · exact ⟨h1, by omega, h3⟩
      · exact ⟨by omega, by omega, by rw [hs x h1 (by omega)]; exact hb⟩
    · rintro ⟨h1, h2, h3⟩
      by_cases hx : x < b
      · exact .inl ⟨h1, hx, h3⟩
      · exact .inr ⟨by omega, by omega⟩
theorem SetI.more {h : Int → Bool} {a b c : Int} {pre : List Rg} {p q : Int} (I : SetI h a b (pre ++ [(p, q)])) (hab : a ≤ b) (hbc : b < c) (hs : ∀ x, b ≤ x → x < c → h x = h b) (hb : h b = true) (hq : q = b - 1) : SetI h a c (pre ++ [(p, c - 1)]) := by
  obtain ⟨n1, n2, n3⟩ := I.nf.init
  have hp := (I.ends (r := (p, q)) (by simp)).1
  dsimp only at n2 n3 hp
  refine ⟨n1.snoc (by show p ≤ c - 1; omega) n3, fun x => ?_⟩
  have := I.num x
  rw [inS_app, inS_onep] at this ⊢
  constructor
  · rintro (h1 | ⟨h1, h2⟩)
    · have := this.1 (.inl h1); exact ⟨this.1, by omega, this.2.2⟩
    · by_cases hx : x < b
      · have := this.1 (.inr ⟨h1, by omega⟩); exact ⟨this.1, by omega, this.2.2⟩
      · exact ⟨by omega, by omega, by rw [hs x (by omega) (by omega)]; exact hb⟩
  · rintro ⟨h1, h2, h3⟩
    by_cases hx : x < b
    · rcases this.2 ⟨h1, hx, h3⟩ with h4 | h4
      · exact .inl h4
      · exact .inr ⟨h4.1, by omega⟩
    · exact .inr ⟨by omega, by omega⟩
/-- All places of a constraint. -/
def plcF (n : Nd) : List Int := putF 1000000000000001 (putF (-1000000000000000) (n.pl []))
theorem plc_asc (n : Nd) : (plcF n).Pairwise (· < ·) := asc_putF _ _ (asc_putF _ _ (pl_asc n [] List.Pairwise.nil))
theorem plc_len (n : Nd) : (plcF n).length ≤ 2 * n.nodes + 2 := by
  have h1 := len_putF 1000000000000001 (putF (-1000000000000000) (n.pl []))
  have h2 := len_putF (-1000000000000000) (n.pl [])
  have h3 := pl_len n []
  unfold plcF
  simp only [List.length_nil] at h3
  omega
theorem plc_mem (n : Nd) : -1000000000000000 ∈ plcF n ∧ 1000000000000001 ∈ plcF n := by
  unfold plcF
  refine ⟨?_, ?_⟩ <;> rw [mem_putF, mem_putF] <;> simp
theorem plc_bd {n : Nd} (h : n.wk = true) : ∀ z ∈ plcF n, -1000000000000000 ≤ z ∧ z ≤ 1000000000000001 := fun z hz => by
  unfold plcF at hz
  rw [mem_putF, mem_putF] at hz
  rcases hz with rfl | rfl | hz
  · omega
  · omega
  · exact pl_bd _ _ n [] h (by simp) (by omega) (by omega) z hz
/-- Between two places that follow one another nothing changes. -/
theorem plc_same (n : Nd) (i : Nat) (h : i + 1 < (plcF n).length) (x : Int) (h1 : (plcF n)[i] ≤ x) (h2 : x < (plcF n)[i + 1]) : n.hold x = n.hold (plcF n)[i] := by
  have hm := plc_mem n
  have hc : Cov (plcF n) n.nodes n := cov_of _ n _ fun z hz => by
    unfold plcF; rw [mem_putF, mem_putF]; exact .inr (.inr (hz []))
  refine (hold_same (plcF n) _ x h1 (fun p hp => ?_) hm.1 hm.2 n.nodes n (Nat.le_refl _) hc).symm
  obtain ⟨j, hj, rfl⟩ := List.getElem_of_mem hp
  have ha := List.pairwise_iff_getElem.1 (plc_asc n)
  rintro ⟨h3, h4⟩
  rcases Nat.lt_trichotomy j i with e | rfl | e
  · have := ha j i hj (by omega) e; omega
  · omega
  · rcases Nat.lt_or_ge (i + 1) j with e2 | e2
    · have := ha (i + 1) j h hj e2; omega
    · obtain rfl : j = i + 1 := by omega
      omega
theorem plc_step (n : Nd) (i : Nat) (h : i + 1 < (plcF n).length) : (plcF n)[i] < (plcF n)[i + 1] := List.pairwise_iff_getElem.1 (plc_asc n) i (i + 1) (by omega) h (by omega)
theorem plc_first {n : Nd} (hs : n.wk = true) (h : 0 < (plcF n).length) : (plcF n)[0] = -1000000000000000 := by
  obtain ⟨j, hj, e⟩ := List.getElem_of_mem (plc_mem n).1
  have h1 := (plc_bd hs _ (List.getElem_mem h)).1
  rcases Nat.eq_zero_or_pos j with rfl | hp
  · exact e
  · have := List.pairwise_iff_getElem.1 (plc_asc n) 0 j h hj hp; omega
theorem plc_last {n : Nd} (hs : n.wk = true) (h : (plcF n).length - 1 < (plcF n).length) : (plcF n)[(plcF n).length - 1] = 1000000000000001 := by
  obtain ⟨j, hj, e⟩ := List.getElem_of_mem (plc_mem n).2
  have h1 := (plc_bd hs _ (List.getElem_mem h)).2
  rcases Nat.lt_or_ge j ((plcF n).length - 1) with hp | hp
  · have := List.pairwise_iff_getElem.1 (plc_asc n) j _ hj h hp; omega
  · obtain rfl : j = (plcF n).length - 1 := by omega
    exact e
/-- The list is the set. -/
theorem SetI.done {n : Nd} (hs : n.wk = true) {out : List Rg} (I : SetI (fun x => n.hold x) (-1000000000000000) 1000000000000001 out) : Nf out ∧ ∀ x, inS out x ↔ n.hold x = true := by
  refine ⟨I.nf, fun x => ?_⟩
  rw [I.num]
  constructor
  · rintro ⟨_, _, h⟩; exact h
  · intro h
    have := hold_bdw x n.nodes n (Nat.le_refl _) hs h
    exact ⟨this.1, by omega, h⟩
/-! #### A set as a constraint -/
def spN (r : Rg) : Nd := .mk 0 r.1 r.2 []
def noN : Nd := .mk 3 0 0 [.mk 4 0 0 [], .mk 4 0 0 []]
def asN (s : List Rg) : Nd := .mk 1 0 0 (noN :: s.map spN)
theorem spN_hold (r : Rg) (x : Int) : (spN r).hold x = (decide (r.1 ≤ x) && decide (x ≤ r.2)) := by simp [spN, Nd.hold]
theorem noN_hold (x : Int) : noN.hold x = false := by simp [noN, Nd.hold, holdL]
theorem asN_hold (s : List Rg) (x : Int) : (asN s).hold x = hasF s x := by
  unfold asN
  rw [Nd.hold_eq]
  simp only [Nd.op, Nd.kids, List.any_cons, noN_hold, Bool.false_or, List.any_map]
  unfold hasF
  simp only [Function.comp_def, spN_hold]
  rfl
def twoN (op : Int) (a b : List Rg) : Nd := .mk op 0 0 [asN a, asN b]
theorem asN_nodes (s : List Rg) : (asN s).nodes = s.length + 4 := by
  have : ∀ l : List Rg, nodesL (l.map spN) = l.length := fun l => by
    induction l with
    | nil => rfl
    | cons r l ih => simp only [List.map_cons, nodesL, ih, List.length_cons, spN, Nd.nodes]; omega
  simp only [asN, Nd.nodes, nodesL, this, noN]; omega
theorem asN_wk {s : List Rg} (h : ∀ r ∈ s, r.1 ≤ r.2 ∧ -1000000000000000 ≤ r.1 ∧ r.2 ≤ 1000000000000000) : (asN s).wk = true := by
  have e : (asN s).op = 1 := rfl
  rw [Nd.wk_eq, if_neg (by omega), if_neg (by omega), if_neg (by omega), if_neg (by omega), Bool.true_and]
  show ((noN :: s.map spN).all Nd.wk) = true
  rw [List.all_cons, List.all_map, Bool.and_eq_true]
  refine ⟨by simp [noN, Nd.wk, wkL], List.all_eq_true.2 fun r hr => ?_⟩
  have := h r hr
  simp only [Function.comp, spN, Nd.wk, wkL]
  simp [this]
theorem twoN_wk {op : Int} {a b : List Rg} (hop : op = 1 ∨ op = 2 ∨ op = 3) (ha : ∀ r ∈ a, r.1 ≤ r.2 ∧ -1000000000000000 ≤ r.1 ∧ r.2 ≤ 1000000000000000) (hb : ∀ r ∈ b, r.1 ≤ r.2 ∧ -1000000000000000 ≤ r.1 ∧ r.2 ≤ 1000000000000000) : (twoN op a b).wk = true := by
  have e : (twoN op a b).op = op := rfl
  have e2 : (twoN op a b).kids.length = 2 := rfl
  have e3 : (twoN op a b).kids.all Nd.wk = true := by
    show [asN a, asN b].all Nd.wk = true
    simp only [List.all_cons, List.all_nil, asN_wk ha, asN_wk hb]; rfl
  rw [Nd.wk_eq, e3, Bool.and_true, e2, e]
  rcases hop with rfl | rfl | rfl
  · rfl
  · rfl
  · rfl
theorem twoN_nodes (op : Int) (a b : List Rg) : (twoN op a b).nodes = a.length + b.length + 9 := by
  simp only [twoN, Nd.nodes, nodesL, asN_nodes]; omega
theorem two_un (a b : List Rg) (x : Int) : (twoN 1 a b).hold x = true ↔ unM a b x := by
  unfold twoN; rw [Nd.hold_eq]; simp [Nd.op, Nd.kids, asN_hold, unM, hasF_iff]
theorem two_me (a b : List Rg) (x : Int) : (twoN 2 a b).hold x = true ↔ meM a b x := by
  unfold twoN; rw [Nd.hold_eq]; simp [Nd.op, Nd.kids, asN_hold, meM, hasF_iff]
theorem two_ex (a b : List Rg) (x : Int) : (twoN 3 a b).hold x = true ↔ exM a b x := by
  unfold twoN; rw [Nd.hold_eq]; simp [Nd.op, Nd.kids, asN_hold, exM]
  rw [← hasF_iff a x, ← hasF_iff b x]
  simp
end Go.Proofs.Ytehmfnpiidcbpaa
