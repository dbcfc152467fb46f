import Derived.Test.YtkkmjjddalpocaaDoorPlay2
namespace Go.Proofs.YtkkmjjddalpocaaDoor
open Go.RowKit
set_option linter.unusedVariables false
set_option linter.unusedSimpArgs false
/-! ### The plain law of Play: each token in use is at one side or on the way -/
def bt (t : Nat) (x : Int) : Int := x / 2 ^ t % 2
theorem bt_01 (t : Nat) (x : Int) : 0 ≤ bt t x ∧ bt t x ≤ 1 := by unfold bt; omega
theorem bt_val (x : Int) (h0 : 0 ≤ x) (h1 : x ≤ 15) : x = bt 0 x + 2 * bt 1 x + 4 * bt 2 x + 8 * bt 3 x := by simp [bt]; omega
def giveOk (m t a : Int) : Bool := !setOk m t || (!(bits .and .i64 m a == a) || ([0, 1, 2, 3] : List Nat).all fun k => bt k (bits .andNot .i64 m a) == bt k m - bt k a && bt k (bits .or .i64 t a) == bt k t + bt k a)
theorem giveOk_all : (List.range 16).all (fun i => (List.range 16).all fun j => (List.range 16).all fun k => giveOk i j k) = true := by decide +kernel
theorem all4 {p : Nat → Bool} (h : ([0, 1, 2, 3] : List Nat).all p = true) (k : Nat) (hk : k < 4) : p k = true := List.all_eq_true.mp h k (by simp; omega)
theorem give_bits {m t a : Int} (h : setOk m t = true) (a0 : 0 ≤ a) (a1 : a ≤ 15) (hs : (bits .and .i64 m a == a) = true) (k : Nat) (hk : k < 4) : bt k (bits .andNot .i64 m a) = bt k m - bt k a ∧ bt k (bits .or .i64 t a) = bt k t + bt k a := by
  obtain ⟨m0, m1, t0, t1, hz⟩ := setOk_spec h
  have := all16_3 giveOk_all m t a m0 m1 t0 t1 a0 a1
  simp only [giveOk, h, hs, Bool.not_true, Bool.false_or] at this
  have := all4 this k hk
  simpa using this
def takeOk (m t a : Int) : Bool := !setOk m t || (!(([0, 1, 2, 3] : List Nat).all fun k => decide (bt k a ≤ bt k t)) || (bits .and .i64 a t == a && ([0, 1, 2, 3] : List Nat).all fun k => bt k (bits .or .i64 m a) == bt k m + bt k a && bt k (bits .andNot .i64 t a) == bt k t - bt k a))
theorem takeOk_all : (List.range 16).all (fun i => (List.range 16).all fun j => (List.range 16).all fun k => takeOk i j k) = true := by decide +kernel
theorem to4 {p : Nat → Prop} [DecidablePred p] (h : ∀ k, k < 4 → p k) : (([0, 1, 2, 3] : List Nat).all fun k => decide (p k)) = true := by
  simp only [List.all_cons, List.all_nil, Bool.and_true, Bool.and_eq_true, decide_eq_true_eq]
  exact ⟨h 0 (by omega), h 1 (by omega), h 2 (by omega), h 3 (by omega)⟩
theorem take_bits {m t a : Int} (h : setOk m t = true) (a0 : 0 ≤ a) (a1 : a ≤ 15) (hs : ∀ k, k < 4 → bt k a ≤ bt k t) : bits .and .i64 a t = a ∧ ∀ k, k < 4 → bt k (bits .or .i64 m a) = bt k m + bt k a ∧ bt k (bits .andNot .i64 t a) = bt k t - bt k a := by
  obtain ⟨m0, m1, t0, t1, hz⟩ := setOk_spec h
  have := all16_3 takeOk_all m t a m0 m1 t0 t1 a0 a1
  simp only [takeOk, h, to4 hs, Bool.not_true, Bool.false_or, Bool.and_eq_true] at this
  refine ⟨by simpa using this.1, fun k hk => ?_⟩
  have := all4 this.2 k hk
  simpa using this
def joinOk (x y : Int) : Bool := !(([0, 1, 2, 3] : List Nat).all fun k => decide (bt k x + bt k y ≤ 1)) || (bits .and .i64 x y == 0 && decide (0 ≤ bits .or .i64 x y) && decide (bits .or .i64 x y ≤ 15) && ([0, 1, 2, 3] : List Nat).all fun k => bt k (bits .or .i64 x y) == bt k x + bt k y)
theorem joinOk_all : (List.range 16).all (fun i => (List.range 16).all fun j => (List.range 16).all fun k => (joinOk i j || k == 16)) = true := by decide +kernel
theorem join_bits {x y : Int} (x0 : 0 ≤ x) (x1 : x ≤ 15) (y0 : 0 ≤ y) (y1 : y ≤ 15) (hs : ∀ k, k < 4 → bt k x + bt k y ≤ 1) : bits .and .i64 x y = 0 ∧ 0 ≤ bits .or .i64 x y ∧ bits .or .i64 x y ≤ 15 ∧ ∀ k, k < 4 → bt k (bits .or .i64 x y) = bt k x + bt k y := by
  have := all16_3 (p := fun i j k => joinOk i j || k == 16) joinOk_all x y 0 x0 x1 y0 y1 (by omega) (by omega)
  simp only [joinOk, to4 hs, Bool.not_true, Bool.false_or, Bool.and_eq_true, Bool.or_eq_true] at this
  rcases this with ⟨⟨⟨h1, h2⟩, h3⟩, h4⟩ | h
  · refine ⟨by simpa using h1, by simpa using h2, by simpa using h3, fun k hk => ?_⟩
    have := all4 h4 k hk
    simpa using this
  · simp at h
def splitOk (m t : Int) : Bool := !setOk m t || (decide (m + t ≤ 15) && ([0, 1, 2, 3] : List Nat).all fun k => bt k (m + t) == bt k m + bt k t)
theorem splitOk_all : (List.range 16).all (fun i => (List.range 16).all fun j => (List.range 16).all fun k => (splitOk i j || k == 16)) = true := by decide +kernel
theorem split_bits {m t : Int} (h : setOk m t = true) : m + t ≤ 15 ∧ ∀ k, k < 4 → bt k (m + t) = bt k m + bt k t := by
  obtain ⟨m0, m1, t0, t1, hz⟩ := setOk_spec h
  have := all16_3 (p := fun i j k => splitOk i j || k == 16) splitOk_all m t 0 m0 m1 t0 t1 (by omega) (by omega)
  simp only [splitOk, h, Bool.not_true, Bool.false_or, Bool.and_eq_true, Bool.or_eq_true] at this
  rcases this with ⟨h1, h2⟩ | h
  · refine ⟨by simpa using h1, fun k hk => ?_⟩
    have := all4 h2 k hk
    simpa using this
  · simp at h
/-! ### The steps of a side -/
def cnt (k : Nat) : List Ev → Int
  | [] => 0
  | e :: l => (if e.kind = 2 then bt k e.a else 0) + cnt k l
theorem cnt_app (k : Nat) (l r : List Ev) : cnt k (l ++ r) = cnt k l + cnt k r := by
  induction l with
  | nil => simp [cnt]
  | cons e l ih => simp [cnt, ih]; omega
theorem cnt_nn (k : Nat) (l : List Ev) : 0 ≤ cnt k l := by
  induction l with
  | nil => simp [cnt]
  | cons e l ih => have := bt_01 k e.a; simp only [cnt]; split <;> omega
def fineD (e : Ev) : Prop := e.way = 1 ∧ 0 ≤ e.a ∧ e.a ≤ 15 ∧ (e.kind = 1 ∧ 0 ≤ e.b ∧ e.b ≤ 9 ∨ e.kind = 2)
theorem forgetN_keeps (l : List Int) : ∀ s : TS, (forgetN s l).mine = s.mine ∧ (forgetN s l).theirs = s.theirs := by
  induction l with
  | nil => intro s; exact ⟨rfl, rfl⟩
  | cons t l ih =>
    intro s
    have h := ih (s.setA t (-1))
    show (forgetN (s.setA t (-1)) l).mine = _ ∧ (forgetN (s.setA t (-1)) l).theirs = _
    rw [h.1, h.2]
    unfold TS.setA
    repeat' split
    all_goals exact ⟨rfl, rfl⟩
/-- A deed of one's own. -/
theorem step_local (s : TS) (e : Ev) (hi : Inv s) (hw : e.way = 0) (hk : e.kind = 1 ∨ e.kind = 2) (a0 : 0 ≤ e.a) (a1 : e.a ≤ 15) (b0 : 0 ≤ e.b) (b1 : e.b ≤ 9) :
    ((stepT s e).2.1 = [] ∧ (stepT s e).1.mine = s.mine ∧ (stepT s e).1.theirs = s.theirs) ∨
    ((stepT s e).2.1 = [downEv 1 e.a e.b] ∧ (stepT s e).1.mine = s.mine ∧ (stepT s e).1.theirs = s.theirs) ∨
    (e.kind = 2 ∧ (stepT s e).2.1 = [downEv 2 e.a 0] ∧ ∀ k, k < 4 → bt k (stepT s e).1.mine = bt k s.mine - bt k e.a ∧ bt k (stepT s e).1.theirs = bt k s.theirs + bt k e.a) := by
  unfold stepT
  split
  · unfold onSt
    rw [if_neg (by omega)]
    rcases hk with hk | hk
    · rw [if_pos hk]
      split
      · exact .inr (.inl ⟨rfl, rfl, rfl⟩)
      · exact .inl ⟨rfl, rfl, rfl⟩
    · rw [if_neg (by omega), if_pos hk]
      unfold giveUp
      split
      · exact .inl ⟨rfl, rfl, rfl⟩
      · rename_i h
        simp only [not_or, Bool.not_eq_false] at h
        refine .inr (.inr ⟨hk, rfl, fun k hk => ?_⟩)
        have hf := forgetN_keeps (toks e.a) { s with mine := bits .andNot .i64 s.mine e.a, theirs := bits .or .i64 s.theirs e.a }
        rw [hf.1, hf.2]
        exact give_bits hi.2 a0 a1 h.2 k hk
  · exact .inl ⟨rfl, rfl, rfl⟩
theorem fine_on {e : Ev} (h : fineD e) : onFine e = true := by
  obtain ⟨h1, h2, h3, h4⟩ := h
  unfold onFine
  rw [if_neg (by omega), if_pos h1]
  rcases h4 with ⟨h4, h5, h6⟩ | h4
  · rw [if_pos h4]; simp [h2, h3, h5, h6]
  · rw [if_neg (by omega), if_pos h4]; simp [h2, h3]
/-- What the other side told. -/
theorem step_down (s : TS) (e : Ev) (hi : Inv s) (hf : fineD e) : downs (stepT s e).2.1 = [] ∧
    (e.kind = 1 → (stepT s e).1.mine = s.mine ∧ (stepT s e).1.theirs = s.theirs) ∧
    (e.kind = 2 → (∀ k, k < 4 → bt k e.a ≤ bt k s.theirs) → ∀ k, k < 4 → bt k (stepT s e).1.mine = bt k s.mine + bt k e.a ∧ bt k (stepT s e).1.theirs = bt k s.theirs - bt k e.a) := by
  unfold stepT
  rw [if_pos (fine_on hf)]
  obtain ⟨h1, h2, h3, h4⟩ := hf
  unfold onSt
  rw [if_pos h1]
  rcases h4 with ⟨h4, h5, h6⟩ | h4
  · rw [if_pos h4]
    refine ⟨?_, fun _ => ?_, fun h => by omega⟩
    · split <;> rfl
    · have := urgeN_keeps e.b (toks (bits .and .i64 e.a s.mine)) s
      exact ⟨this.2.1, this.2.2⟩
  · rw [if_neg (by omega)]
    refine ⟨?_, fun h => by omega, fun _ hb k hk => ?_⟩
    · split <;> rfl
    · obtain ⟨ht, hb2⟩ := take_bits hi.2 h2 h3 hb
      dsimp only
      rw [ht]
      unfold giveS
      have hf := forgetN_keeps (toks e.a) { s with theirs := bits .andNot .i64 s.theirs e.a, mine := bits .or .i64 s.mine e.a }
      rw [hf.1, hf.2]
      exact hb2 k hk
/-! ### The whole play -/
structure J (U : Int) (p : PS) : Prop where
  ia : Inv p.a
  ib : Inv p.b
  fa : ∀ e ∈ p.wa, fineD e
  fb : ∀ e ∈ p.wb, fineD e
  sum : ∀ k, k < 4 → bt k p.a.mine + bt k p.b.mine + cnt k p.wa + cnt k p.wb = bt k U
  ta : ∀ k, k < 4 → bt k p.a.theirs = bt k U - bt k p.a.mine
  tb : ∀ k, k < 4 → bt k p.b.theirs = bt k U - bt k p.b.mine
def PS.swap (p : PS) : PS := ⟨p.b, p.a, p.wb, p.wa⟩
theorem J.swap {U : Int} {p : PS} (h : J U p) : J U p.swap :=
  ⟨h.ib, h.ia, h.fb, h.fa, fun k hk => by have := h.sum k hk; show bt k p.b.mine + bt k p.a.mine + cnt k p.wb + cnt k p.wa = _; omega, h.tb, h.ta⟩
theorem meet_swap (p : PS) (e : Ev) : meetP p 1 e = (meetP p.swap 0 e).swap := by simp [meetP, PS.swap]
theorem J_local {U : Int} {p : PS} (h : J U p) (e : Ev) (hw : e.way = 0) (hk : e.kind = 1 ∨ e.kind = 2) (a0 : 0 ≤ e.a) (a1 : e.a ≤ 15) (b0 : 0 ≤ e.b) (b1 : e.b ≤ 9) : J U (meetP p 0 e) := by
  have hS := (step_sim p.a e h.ia).2
  have hR := step_local p.a e h.ia hw hk a0 a1 b0 b1
  obtain ⟨ia, ib, fa, fb, sum, ta, tb⟩ := h
  have hm : meetP p 0 e = { p with a := (stepT p.a e).1, wb := p.wb ++ downs (stepT p.a e).2.1 } := by simp [meetP]
  rw [hm]
  rcases hR with ⟨h1, h2, h3⟩ | ⟨h1, h2, h3⟩ | ⟨hk2, h1, h2⟩
  · have hd : downs (stepT p.a e).2.1 = [] := by rw [h1]; rfl
    rw [hd, List.append_nil]
    exact ⟨hS, ib, fa, fb, by simpa only [h2] using sum, by simpa only [h2, h3] using ta, tb⟩
  · have hd : downs (stepT p.a e).2.1 = [downEv 1 e.a e.b] := by rw [h1]; rfl
    rw [hd]
    refine ⟨hS, ib, fa, fun x hx => ?_, fun k hk => ?_, by simpa only [h2, h3] using ta, tb⟩
    · rcases List.mem_append.mp hx with hx | hx
      · exact fb x hx
      · rw [List.mem_singleton.mp hx]; exact ⟨rfl, a0, a1, .inl ⟨rfl, b0, b1⟩⟩
    · have := sum k hk
      dsimp only
      rw [cnt_app, h2]
      simp only [cnt, downEv]
      simp
      omega
  · have hd : downs (stepT p.a e).2.1 = [downEv 2 e.a 0] := by rw [h1]; rfl
    rw [hd]
    refine ⟨hS, ib, fa, fun x hx => ?_, fun k hk => ?_, fun k hk => ?_, tb⟩
    · rcases List.mem_append.mp hx with hx | hx
      · exact fb x hx
      · rw [List.mem_singleton.mp hx]; exact ⟨rfl, a0, a1, .inr rfl⟩
    · have := sum k hk
      have := (h2 k hk).1
      dsimp only
      rw [cnt_app]
      simp only [cnt, downEv]
      simp
      omega
    · have := ta k hk
      have := h2 k hk
      dsimp only
      omega
theorem J_pop {U : Int} {p : PS} {e : Ev} {r : List Ev} (h : J U { p with wa := e :: r }) : J U (meetP { p with wa := r } 0 e) ∧ (meetP { p with wa := r } 0 e).wa = r ∧ (meetP { p with wa := r } 0 e).wb = p.wb := by
  obtain ⟨ia, ib, fa, fb, sum, ta, tb⟩ := h
  dsimp only at ia ib fa fb sum ta tb
  have hf := fa e (by simp)
  have hS := (step_sim p.a e ia).2
  obtain ⟨hd, h1, h2⟩ := step_down p.a e ia hf
  have hm : meetP { p with wa := r } 0 e = { p with a := (stepT p.a e).1, wa := r } := by simp [meetP, hd]
  rw [hm]
  refine ⟨?_, rfl, rfl⟩
  rcases hf.2.2.2 with ⟨h4, _⟩ | h4
  · obtain ⟨h5, h6⟩ := h1 h4
    refine ⟨hS, ib, fun x hx => fa x (by simp [hx]), fb, fun k hk => ?_, by simpa only [h5, h6] using ta, tb⟩
    have := sum k hk
    simp only [cnt] at this
    rw [if_neg (by omega)] at this
    dsimp only
    rw [h5]
    omega
  · have hle : ∀ k, k < 4 → bt k e.a ≤ bt k p.a.theirs := fun k hk => by
      have s1 := sum k hk
      have s2 := ta k hk
      have s3 := bt_01 k U; have s4 := bt_01 k p.a.mine; have s5 := bt_01 k p.b.mine; have s6 := cnt_nn k r; have s7 := cnt_nn k p.wb
      simp only [cnt] at s1
      rw [if_pos h4] at s1
      omega
    have h5 := h2 h4 hle
    refine ⟨hS, ib, fun x hx => fa x (by simp [hx]), fb, fun k hk => ?_, fun k hk => ?_, tb⟩
    · have s1 := sum k hk
      simp only [cnt] at s1
      rw [if_pos h4] at s1
      have := (h5 k hk).1
      dsimp only
      omega
    · have := h5 k hk
      have := ta k hk
      dsimp only
      omega
theorem J_pop0 {U : Int} {p : PS} (h : J U p) : J U (popP p 0) ∧ (popP p 0).wa = p.wa.tail ∧ (popP p 0).wb = p.wb := by
  unfold popP
  rw [if_pos rfl]
  split
  · rename_i hn; exact ⟨h, by simp [hn], rfl⟩
  · rename_i e r hc
    have h' : J U { p with wa := e :: r } := by rw [← hc]; exact h
    have := J_pop h'
    exact ⟨this.1, by rw [this.2.1, hc]; rfl, this.2.2⟩
theorem pop_swap (p : PS) : popP p 1 = (popP p.swap 0).swap := by
  unfold popP
  rw [if_neg (by omega), if_pos rfl]
  show (match p.wb with | [] => p | e :: r => meetP { p with wb := r } 1 e) = PS.swap (match p.wb with | [] => p.swap | e :: r => meetP { p.swap with wa := r } 0 e)
  split
  · rfl
  · rw [meet_swap]; rfl
theorem J_pop1 {U : Int} {p : PS} (h : J U p) : J U (popP p 1) ∧ (popP p 1).wa = p.wa ∧ (popP p 1).wb = p.wb.tail := by
  rw [pop_swap]
  have := J_pop0 h.swap
  exact ⟨this.1.swap, this.2.2, this.2.1⟩
theorem J_deed {U : Int} {p : PS} (h : J U p) (d k : Int) : J U (deedP p d k) := by
  unfold deedP
  have a0 : 0 ≤ k % 16 := by omega
  have a1 : k % 16 ≤ 15 := by omega
  have b0 : 0 ≤ k % 10 := by omega
  have b1 : k % 10 ≤ 9 := by omega
  repeat' split
  · exact J_local h _ rfl (.inl rfl) a0 a1 b0 b1
  · rw [meet_swap]; exact (J_local h.swap _ rfl (.inl rfl) a0 a1 b0 b1).swap
  · exact J_local h _ rfl (.inr rfl) a0 a1 (Int.le_refl 0) (show (0 : Int) ≤ 9 by omega)
  · rw [meet_swap]; exact (J_local h.swap _ rfl (.inr rfl) a0 a1 (Int.le_refl 0) (show (0 : Int) ≤ 9 by omega)).swap
  · exact (J_pop0 h).1
  · exact (J_pop1 h).1
theorem J_run {U : Int} (l : List Int) : ∀ {p : PS}, J U p → J U (runP p l) := by
  induction l with
  | nil => intro p h; exact h
  | cons n l ih => intro p h; exact ih (J_deed h (n % 6) (n / 6))
theorem J_start {m t : Int} (h : setOk m t = true) : J (m + t) (startP m t) := by
  have h' : setOk t m = true := by rw [setOk_comm]; exact h
  have hs := (split_bits h).2
  refine ⟨⟨rfl, h⟩, ⟨rfl, h'⟩, by simp [startP], by simp [startP], fun k hk => ?_, fun k hk => ?_, fun k hk => ?_⟩
  · show bt k m + bt k t + 0 + 0 = _
    rw [hs k hk]; omega
  · show bt k t = bt k (m + t) - bt k m
    rw [hs k hk]; omega
  · show bt k m = bt k (m + t) - bt k t
    rw [hs k hk]; omega
theorem orGives_bits (l : List Ev) : ∀ (s : Int), 0 ≤ s → s ≤ 15 → (∀ e ∈ l, fineD e) → (∀ k, k < 4 → bt k s + cnt k l ≤ 1) →
    0 ≤ orGives s l ∧ orGives s l ≤ 15 ∧ ∀ k, k < 4 → bt k (orGives s l) = bt k s + cnt k l := by
  induction l with
  | nil => intro s s0 s1 _ _; exact ⟨s0, s1, fun k hk => by simp [orGives, cnt]⟩
  | cons e l ih =>
    intro s s0 s1 hf hb
    by_cases hk2 : e.kind = 2
    · have he := hf e (by simp)
      have hb' : ∀ k, k < 4 → bt k s + bt k e.a ≤ 1 := fun k hk => by
        have := hb k hk
        simp only [cnt, if_pos hk2] at this
        have := cnt_nn k l
        omega
      obtain ⟨_, j0, j1, j2⟩ := join_bits s0 s1 he.2.1 he.2.2.1 hb'
      have := ih (bits .or .i64 s e.a) j0 j1 (fun x hx => hf x (by simp [hx])) (fun k hk => by
        have := hb k hk
        simp only [cnt, if_pos hk2] at this
        rw [j2 k hk]; omega)
      have hs : orGives s (e :: l) = orGives (bits .or .i64 s e.a) l := by simp [orGives, hk2]
      rw [hs]
      refine ⟨this.1, this.2.1, fun k hk => ?_⟩
      rw [this.2.2 k hk, j2 k hk]
      simp only [cnt, if_pos hk2]; omega
    · have := ih s s0 s1 (fun x hx => hf x (by simp [hx])) (fun k hk => by have := hb k hk; simp only [cnt, if_neg hk2] at this; omega)
      have hs : orGives s (e :: l) = orGives s l := by simp [orGives, hk2]
      rw [hs]
      refine ⟨this.1, this.2.1, fun k hk => ?_⟩
      rw [this.2.2 k hk]
      simp only [cnt, if_neg hk2]; omega
/-- Each token in use is at one side or on the way. -/
theorem J.one {U : Int} {p : PS} (h : J U p) (u0 : 0 ≤ U) (u1 : U ≤ 15) :
    0 ≤ orGives (orGives 0 p.wa) p.wb ∧ orGives (orGives 0 p.wa) p.wb ≤ 15 ∧ p.a.mine + p.b.mine + orGives (orGives 0 p.wa) p.wb = U ∧ bits .and .i64 p.a.mine p.b.mine = 0 ∧
      bits .and .i64 p.a.mine (orGives (orGives 0 p.wa) p.wb) = 0 ∧ bits .and .i64 p.b.mine (orGives (orGives 0 p.wa) p.wb) = 0 := by
  have hA := Inv.good h.ia
  have hB := Inv.good h.ib
  obtain ⟨_, a0, a1, _⟩ := hA
  obtain ⟨_, b0, b1, _⟩ := hB
  have z : ∀ k, bt k 0 = 0 := fun k => by simp [bt]
  have bd : ∀ k, k < 4 → bt k p.a.mine + bt k p.b.mine + cnt k p.wa + cnt k p.wb ≤ 1 ∧ 0 ≤ bt k p.a.mine ∧ 0 ≤ bt k p.b.mine ∧ 0 ≤ cnt k p.wa ∧ 0 ≤ cnt k p.wb := fun k hk => by
    have := h.sum k hk; have := bt_01 k U
    exact ⟨by omega, (bt_01 _ _).1, (bt_01 _ _).1, cnt_nn _ _, cnt_nn _ _⟩
  obtain ⟨g0, g1, g2⟩ := orGives_bits p.wa 0 (by omega) (by omega) h.fa (fun k hk => by have := bd k hk; rw [z]; omega)
  obtain ⟨w0, w1, w2⟩ := orGives_bits p.wb (orGives 0 p.wa) g0 g1 h.fb (fun k hk => by have := bd k hk; rw [g2 k hk, z]; omega)
  have W : ∀ k, k < 4 → bt k (orGives (orGives 0 p.wa) p.wb) = cnt k p.wa + cnt k p.wb := fun k hk => by rw [w2 k hk, g2 k hk, z]; omega
  generalize orGives (orGives 0 p.wa) p.wb = w at *
  refine ⟨w0, w1, ?_, (join_bits a0 a1 b0 b1 fun k hk => ?_).1, (join_bits a0 a1 w0 w1 fun k hk => ?_).1, (join_bits b0 b1 w0 w1 fun k hk => ?_).1⟩
  · have e1 := bt_val p.a.mine a0 a1; have e2 := bt_val p.b.mine b0 b1; have e3 := bt_val w w0 w1; have e4 := bt_val U u0 u1
    have f0 := h.sum 0 (by omega); have f1 := h.sum 1 (by omega); have f2 := h.sum 2 (by omega); have f3 := h.sum 3 (by omega)
    have g0 := W 0 (by omega); have g1 := W 1 (by omega); have g2 := W 2 (by omega); have g3 := W 3 (by omega)
    omega
  · have := bd k hk; omega
  · have := bd k hk; rw [W k hk]; omega
  · have := bd k hk; rw [W k hk]; omega
end Go.Proofs.YtkkmjjddalpocaaDoor
