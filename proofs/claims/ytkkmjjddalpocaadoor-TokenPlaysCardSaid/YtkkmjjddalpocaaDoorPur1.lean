import Derived.Test.YtkkmjjddalpocaaDoorRef6
namespace Go.Proofs.YtkkmjjddalpocaaDoor
open Go.RowKit
set_option linter.unusedVariables false
set_option linter.unusedSimpArgs false
set_option maxHeartbeats 2000000
/-! ### The plain law of the two sides -/
def toRS (s : TS) : RS := ⟨s.made, hOf s.mine s.theirs 0, hOf s.mine s.theirs 1, hOf s.mine s.theirs 2, hOf s.mine s.theirs 3, s.a0, s.a1, s.a2, s.a3⟩
def Inv (s : TS) : Prop := s.made = true ∧ setOk s.mine s.theirs = true
theorem Inv.good {s : TS} (h : Inv s) : Good s := by
  obtain ⟨a, b, c, d, _⟩ := setOk_spec h.2
  exact ⟨h.1, a, b, c, d⟩
def allH (m t a v : Int) : Bool := (!inB a 0 || hOf m t 0 == v) && (!inB a 1 || hOf m t 1 == v) && (!inB a 2 || hOf m t 2 == v) && (!inB a 3 || hOf m t 3 == v)
def toldH (m t a v : Int) : Int := 8 * bt01 (inB a 3 && hOf m t 3 == v) + 4 * bt01 (inB a 2 && hOf m t 2 == v) + 2 * bt01 (inB a 1 && hOf m t 1 == v) + bt01 (inB a 0 && hOf m t 0 == v)
def setH (m t v : Int) : Int := 8 * bt01 (hOf m t 3 == v) + 4 * bt01 (hOf m t 2 == v) + 2 * bt01 (hOf m t 1 == v) + bt01 (hOf m t 0 == v)
def hSame (m t m' t' a v : Int) : Bool := [0, 1, 2, 3].all fun i => hOf m' t' i == if inB a i then v else hOf m t i
def simOk (m t a : Int) : Bool := !setOk m t ||
  (allH m t a 2 == (bits .and .i64 t a == a) && allH m t a 1 == (bits .and .i64 m a == a) && setH m t 1 == m && setH m t 2 == t &&
   (!(bits .and .i64 m a == a) || (setOk (bits .andNot .i64 m a) (bits .or .i64 t a) && hSame m t (bits .andNot .i64 m a) (bits .or .i64 t a) a 2)) &&
   toldH m t a 1 == bits .and .i64 a m && toldH m t a 2 == bits .and .i64 a t &&
   setOk (bits .or .i64 m (bits .and .i64 a t)) (bits .andNot .i64 t (bits .and .i64 a t)) && hSame m t (bits .or .i64 m (bits .and .i64 a t)) (bits .andNot .i64 t (bits .and .i64 a t)) (bits .and .i64 a t) 1)
theorem all16_3 {p : Int → Int → Int → Bool} (h : (List.range 16).all (fun i => (List.range 16).all fun j => (List.range 16).all fun k => p i j k) = true) (a b c : Int) (a0 : 0 ≤ a) (a1 : a ≤ 15) (b0 : 0 ≤ b) (b1 : b ≤ 15) (c0 : 0 ≤ c) (c1 : c ≤ 15) : p a b c = true := by
  obtain ⟨i, rfl⟩ := Int.eq_ofNat_of_zero_le a0
  obtain ⟨j, rfl⟩ := Int.eq_ofNat_of_zero_le b0
  obtain ⟨k, rfl⟩ := Int.eq_ofNat_of_zero_le c0
  exact List.all_eq_true.1 (List.all_eq_true.1 (List.all_eq_true.1 h i (by simp; omega)) j (by simp; omega)) k (by simp; omega)
theorem simOk_all : (List.range 16).all (fun i => (List.range 16).all fun j => (List.range 16).all fun k => simOk i j k) = true := by decide +kernel
theorem sim_spec {m t a : Int} (h : setOk m t = true) (a0 : 0 ≤ a) (a1 : a ≤ 15) :
    allH m t a 2 = (bits .and .i64 t a == a) ∧ allH m t a 1 = (bits .and .i64 m a == a) ∧ setH m t 1 = m ∧ setH m t 2 = t ∧
    ((bits .and .i64 m a == a) = true → setOk (bits .andNot .i64 m a) (bits .or .i64 t a) = true ∧ hSame m t (bits .andNot .i64 m a) (bits .or .i64 t a) a 2 = true) ∧
    toldH m t a 1 = bits .and .i64 a m ∧ toldH m t a 2 = bits .and .i64 a t ∧
    setOk (bits .or .i64 m (bits .and .i64 a t)) (bits .andNot .i64 t (bits .and .i64 a t)) = true ∧ hSame m t (bits .or .i64 m (bits .and .i64 a t)) (bits .andNot .i64 t (bits .and .i64 a t)) (bits .and .i64 a t) 1 = true := by
  obtain ⟨m0, m1, t0, t1, _⟩ := setOk_spec h
  have := all16_3 simOk_all m t a m0 m1 t0 t1 a0 a1
  unfold simOk at this
  rw [h] at this
  simp only [Bool.not_true, Bool.false_or, Bool.and_eq_true, Bool.or_eq_true, beq_iff_eq, Bool.not_eq_true'] at this
  obtain ⟨⟨⟨⟨⟨⟨⟨⟨x1, x2⟩, x3⟩, x4⟩, x5⟩, x6⟩, x7⟩, x8⟩, x9⟩ := this
  refine ⟨x1, x2, x3, x4, fun hh => ?_, x6, x7, x8, x9⟩
  rcases x5 with x5 | x5
  · rw [x5] at hh; cases hh
  · exact x5
def wasIn (a : Int) (i : Nat) (x y : Int) : Int := if inB a i = true then x else y
theorem forget_all (s : TS) (a : Int) (a0 : 0 ≤ a) (a1 : a ≤ 15) : forgetN s (toks a) = { s with a0 := wasIn a 0 (-1) s.a0, a1 := wasIn a 1 (-1) s.a1, a2 := wasIn a 2 (-1) s.a2, a3 := wasIn a 3 (-1) s.a3 } := by
  have : a = 0 ∨ a = 1 ∨ a = 2 ∨ a = 3 ∨ a = 4 ∨ a = 5 ∨ a = 6 ∨ a = 7 ∨ a = 8 ∨ a = 9 ∨ a = 10 ∨ a = 11 ∨ a = 12 ∨ a = 13 ∨ a = 14 ∨ a = 15 := by omega
  rcases this with rfl | rfl | rfl | rfl | rfl | rfl | rfl | rfl | rfl | rfl | rfl | rfl | rfl | rfl | rfl | rfl <;> rfl
theorem urge_all (s : TS) (b a : Int) (a0 : 0 ≤ a) (a1 : a ≤ 15) : urgeN s b (toks a) = { s with a0 := wasIn a 0 (max s.a0 b) s.a0, a1 := wasIn a 1 (max s.a1 b) s.a1, a2 := wasIn a 2 (max s.a2 b) s.a2, a3 := wasIn a 3 (max s.a3 b) s.a3 } := by
  have : a = 0 ∨ a = 1 ∨ a = 2 ∨ a = 3 ∨ a = 4 ∨ a = 5 ∨ a = 6 ∨ a = 7 ∨ a = 8 ∨ a = 9 ∨ a = 10 ∨ a = 11 ∨ a = 12 ∨ a = 13 ∨ a = 14 ∨ a = 15 := by omega
  rcases this with rfl | rfl | rfl | rfl | rfl | rfl | rfl | rfl | rfl | rfl | rfl | rfl | rfl | rfl | rfl | rfl <;> rfl
theorem give_all (s : RS) (a v : Int) : s.giveT a v 4 = { s with h0 := wasIn a 0 v s.h0, h1 := wasIn a 1 v s.h1, h2 := wasIn a 2 v s.h2, h3 := wasIn a 3 v s.h3, a0 := wasIn a 0 (-1) s.a0, a1 := wasIn a 1 (-1) s.a1, a2 := wasIn a 2 (-1) s.a2, a3 := wasIn a 3 (-1) s.a3 } := by
  rcases h0 : inB a 0 with _ | _ <;> rcases h1 : inB a 1 with _ | _ <;> rcases h2 : inB a 2 with _ | _ <;> rcases h3 : inB a 3 with _ | _ <;> simp [RS.giveT, wasIn, h0, h1, h2, h3]
theorem ask_all (s : RS) (a v : Int) : s.askT a v 4 = { s with a0 := wasIn a 0 (max s.a0 v) s.a0, a1 := wasIn a 1 (max s.a1 v) s.a1, a2 := wasIn a 2 (max s.a2 v) s.a2, a3 := wasIn a 3 (max s.a3 v) s.a3 } := by
  rcases h0 : inB a 0 with _ | _ <;> rcases h1 : inB a 1 with _ | _ <;> rcases h2 : inB a 2 with _ | _ <;> rcases h3 : inB a 3 with _ | _ <;> simp [RS.askT, wasIn, h0, h1, h2, h3]
theorem hSame_spec {m t m' t' a v : Int} (h : hSame m t m' t' a v = true) : hOf m' t' 0 = wasIn a 0 v (hOf m t 0) ∧ hOf m' t' 1 = wasIn a 1 v (hOf m t 1) ∧ hOf m' t' 2 = wasIn a 2 v (hOf m t 2) ∧ hOf m' t' 3 = wasIn a 3 v (hOf m t 3) := by
  simpa [hSame, wasIn] using h
/-- One event: the two sides do the same. -/
theorem sim_on (s : TS) (e : Ev) (hi : Inv s) (hf : onFine e = true) : ronSt (toRS s) e = (toRS (onSt s e).1, (onSt s e).2.1, (onSt s e).2.2) ∧ Inv (onSt s e).1 := by
  obtain ⟨made, m, t, a0, a1, a2, a3⟩ := s
  obtain ⟨way, kind, ea, eb, ec, data⟩ := e
  obtain ⟨hm, hs⟩ := hi
  dsimp only at hm hs
  subst hm
  unfold onFine at hf
  dsimp only at hf
  have giveCase : ∀ a, 0 ≤ a → a ≤ 15 → (bits .and .i64 m a == a) = true → RS.giveT (toRS ⟨true, m, t, a0, a1, a2, a3⟩) a 2 4 = toRS (forgetN ⟨true, bits .andNot .i64 m a, bits .or .i64 t a, a0, a1, a2, a3⟩ (toks a)) ∧ Inv (forgetN ⟨true, bits .andNot .i64 m a, bits .or .i64 t a, a0, a1, a2, a3⟩ (toks a)) := by
    intro a ha0 ha1 hma
    obtain ⟨_, _, _, _, x5, _⟩ := sim_spec hs ha0 ha1
    obtain ⟨y1, y2⟩ := x5 hma
    obtain ⟨z0, z1, z2, z3⟩ := hSame_spec y2
    rw [give_all, forget_all _ _ ha0 ha1]
    exact ⟨by simp only [toRS, z0, z1, z2, z3], rfl, y1⟩
  split at hf
  · rename_i hw
    subst hw
    split at hf
    · rename_i hk
      subst hk
      simp only [Bool.and_eq_true, decide_eq_true_eq] at hf
      obtain ⟨x1, _⟩ := sim_spec hs (show 0 ≤ ea by omega) hf.1.1.2
      have e1 : RS.allB (toRS ⟨true, m, t, a0, a1, a2, a3⟩) ea 2 = (bits .and .i64 t ea == ea) := x1
      unfold ronSt onSt ruserP
      simp only [show (0 : Int) ≠ 1 by omega, if_false, if_true, e1]
      split <;> exact ⟨rfl, rfl, hs⟩
    · split at hf
      · rename_i hk
        subst hk
        simp only [Bool.and_eq_true, decide_eq_true_eq] at hf
        obtain ⟨_, x2, _⟩ := sim_spec hs (show 0 ≤ ea by omega) hf.2
        have e1 : RS.allB (toRS ⟨true, m, t, a0, a1, a2, a3⟩) ea 1 = (bits .and .i64 m ea == ea) := x2
        unfold ronSt onSt ruserP giveUp
        simp only [show (0 : Int) ≠ 1 by omega, show (2 : Int) ≠ 1 by omega, if_false, if_true, e1]
        rcases hme : (bits .and .i64 m ea == ea) with _ | _
        · simp only [or_true, if_true]; exact ⟨rfl, rfl, hs⟩
        · obtain ⟨g1, g2⟩ := giveCase ea (by omega) hf.2 hme
          rw [if_neg (show ¬ (ea = 0 ∨ true = false) by simp; omega)]
          simp only [if_true]
          exact ⟨by rw [g1], g2⟩
      · have hk : kind = 3 := by simpa using hf
        subst hk
        obtain ⟨m0, m1, _⟩ := setOk_spec hs
        obtain ⟨_, x2, x3, _⟩ := sim_spec hs m0 m1
        have hmm := self15 m m0 m1
        have e1 : RS.allB (toRS ⟨true, m, t, a0, a1, a2, a3⟩) m 1 = true := by rw [← hmm]; exact x2
        have e2 : RS.setV (toRS ⟨true, m, t, a0, a1, a2, a3⟩) 1 = m := x3
        unfold ronSt onSt ruserP giveUp
        simp only [show (0 : Int) ≠ 1 by omega, show (3 : Int) ≠ 1 by omega, show (3 : Int) ≠ 2 by omega, if_false, e1, e2, hmm]
        by_cases hm0 : m = 0
        · rw [if_pos hm0, if_pos (.inl hm0)]; exact ⟨rfl, rfl, hs⟩
        · obtain ⟨g1, g2⟩ := giveCase m m0 m1 hmm
          rw [if_neg hm0, if_neg (show ¬ (m = 0 ∨ true = false) by simp; omega)]
          simp only [if_true]
          exact ⟨by rw [g1], g2⟩
  · split at hf
    · rename_i hw
      subst hw
      split at hf
      · rename_i hk
        subst hk
        simp only [Bool.and_eq_true, decide_eq_true_eq] at hf
        obtain ⟨_, _, _, _, _, x6, _⟩ := sim_spec hs hf.1.1.1 hf.1.1.2
        have e1 : RS.told (toRS ⟨true, m, t, a0, a1, a2, a3⟩) ea 1 = bits .and .i64 ea m := x6
        obtain ⟨m0, m1, t0, t1, _⟩ := setOk_spec hs
        obtain ⟨r0, r1⟩ := and15 ea m hf.1.1.1 hf.1.1.2 m0 m1
        unfold ronSt onSt rbelowP
        simp only [if_true, show (1 : Int) ≠ 2 by omega, if_false, e1]
        rw [urge_all _ _ _ r0 r1, ask_all]
        by_cases h0 : bits .and .i64 ea m = 0
        · simp only [h0, if_true]
          exact ⟨by simp [toRS, wasIn, inB], rfl, hs⟩
        · simp only [h0, if_false]
          exact ⟨rfl, rfl, hs⟩
      · split at hf
        · rename_i hk
          subst hk
          simp only [Bool.and_eq_true, decide_eq_true_eq] at hf
          obtain ⟨_, _, _, _, _, _, x7, x8, x9⟩ := sim_spec hs hf.1 hf.2
          have e1 : RS.told (toRS ⟨true, m, t, a0, a1, a2, a3⟩) ea 2 = bits .and .i64 ea t := x7
          obtain ⟨m0, m1, t0, t1, _⟩ := setOk_spec hs
          obtain ⟨r0, r1⟩ := and15 ea t hf.1 hf.2 t0 t1
          obtain ⟨z0, z1, z2, z3⟩ := hSame_spec x9
          unfold ronSt onSt rbelowP giveS
          simp only [if_true, show (2 : Int) ≠ 1 by omega, if_false, e1]
          rw [forget_all _ _ r0 r1, give_all]
          by_cases h0 : bits .and .i64 ea t = 0
          · simp only [h0, if_true] at z0 z1 z2 z3 x8 ⊢
            refine ⟨?_, rfl, x8⟩
            simp only [toRS, z0, z1, z2, z3]
            simp [wasIn, inB]
          · simp only [h0, if_false]
            exact ⟨by simp only [toRS, z0, z1, z2, z3], rfl, x8⟩
        · cases hf
    · cases hf
/-! ### What the sides tell -/
def tellOk (m t n : Int) : Bool := !setOk m t || (mayP ⟨true, m, t, 0, 0, 0, 0⟩ n == rmayP (toRS ⟨true, m, t, 0, 0, 0, 0⟩) n && setH m t 1 == m && setH m t 2 == t)
theorem tellOk_all : (List.range 16).all (fun i => (List.range 16).all fun j => (List.range 16).all fun k => tellOk i j k) = true := by decide +kernel
theorem may_sim (s : TS) (hi : Inv s) (n : Int) : mayP s n = rmayP (toRS s) n := by
  obtain ⟨made, m, t, a0, a1, a2, a3⟩ := s
  obtain ⟨hm, hs⟩ := hi
  dsimp only at hm hs
  subst hm
  by_cases h : 0 ≤ n ∧ n ≤ 15
  · obtain ⟨m0, m1, t0, t1, _⟩ := setOk_spec hs
    have := all16_3 tellOk_all m t n m0 m1 t0 t1 h.1 h.2
    unfold tellOk at this
    rw [hs] at this
    simp only [Bool.not_true, Bool.false_or, Bool.and_eq_true, beq_iff_eq] at this
    exact this.1.1
  · have h1 : mayP ⟨true, m, t, a0, a1, a2, a3⟩ n = false := by
      unfold mayP
      by_cases h0 : 0 ≤ n
      · rw [decide_eq_false (show ¬ n ≤ 15 by omega)]; simp
      · rw [decide_eq_false h0]; simp
    have h2 : rmayP (toRS ⟨true, m, t, a0, a1, a2, a3⟩) n = false := by
      unfold rmayP
      by_cases h0 : 0 ≤ n
      · rw [decide_eq_false (show ¬ n ≤ 15 by omega)]; simp
      · rw [decide_eq_false h0]; simp
    rw [h1, h2]
theorem mine_sim (s : TS) (hi : Inv s) : s.mine = (toRS s).setV 1 ∧ s.theirs = (toRS s).setV 2 := by
  obtain ⟨_, _, x3, x4, _⟩ := sim_spec (a := 0) hi.2 (by omega) (by omega)
  exact ⟨x3.symm, x4.symm⟩
def askOk (m t : Int) : Bool := !setOk m t || ((bits .and .i64 m 1 == 1) == (hOf m t 0 == 1) && (bits .and .i64 m 2 == 2) == (hOf m t 1 == 1) && (bits .and .i64 m 4 == 4) == (hOf m t 2 == 1) && (bits .and .i64 m 8 == 8) == (hOf m t 3 == 1))
theorem askOk_all : (List.range 16).all (fun i => (List.range 16).all fun j => (List.range 16).all fun k => askOk i j) = true := by decide +kernel
theorem asked_sim (s : TS) (hi : Inv s) (n : Int) : askedP s n = raskedP (toRS s) n := by
  obtain ⟨made, m, t, a0, a1, a2, a3⟩ := s
  obtain ⟨hm, hs⟩ := hi
  dsimp only at hm hs
  subst hm
  obtain ⟨m0, m1, t0, t1, _⟩ := setOk_spec hs
  have := all16_3 (p := fun i j k => askOk i j) askOk_all m t 0 m0 m1 t0 t1 (by omega) (by omega)
  unfold askOk at this
  rw [hs] at this
  simp only [Bool.not_true, Bool.false_or, Bool.and_eq_true, beq_iff_eq] at this
  obtain ⟨⟨⟨q0, q1⟩, q2⟩, q3⟩ := this
  unfold askedP raskedP
  by_cases h : n < 0 ∨ 3 < n
  · rw [if_pos (by omega), if_pos h]
  · rw [if_neg (by simp; omega), if_neg h]
    have hn : n = 0 ∨ n = 1 ∨ n = 2 ∨ n = 3 := by omega
    rcases hn with rfl | rfl | rfl | rfl
    · simp only [bitOf, RS.getH, TS.getA, RS.getA, toRS, if_true, q0]; simp
    · simp only [bitOf, RS.getH, TS.getA, RS.getA, toRS, show (1 : Int) ≠ 0 by omega, if_true, if_false, q1]; simp
    · simp only [bitOf, RS.getH, TS.getA, RS.getA, toRS, show (2 : Int) ≠ 0 by omega, show (2 : Int) ≠ 1 by omega, if_true, if_false, q2]; simp
    · simp only [bitOf, RS.getH, TS.getA, RS.getA, toRS, show (3 : Int) ≠ 0 by omega, show (3 : Int) ≠ 1 by omega, show (3 : Int) ≠ 2 by omega, if_false, q3]; simp
def newOk (m t : Int) : Bool := setOk m t == rApart m t
theorem newOk_all : (List.range 16).all (fun i => (List.range 16).all fun j => (List.range 16).all fun k => newOk i j) = true := by decide +kernel
theorem new_sim (m t : Int) : setOk m t = (rIn m t && rApart m t) := by
  by_cases h : rIn m t = true
  · have h' := h
    unfold rIn at h'
    simp only [Bool.and_eq_true, decide_eq_true_eq] at h'
    have := all16_3 (p := fun i j k => newOk i j) newOk_all m t 0 h'.1.1.1 h'.1.1.2 h'.1.2 h'.2 (by omega) (by omega)
    rw [h]
    simpa [newOk] using this
  · have : setOk m t = (rIn m t && (bits .and .i64 m t == 0)) := rfl
    rw [this]
    rw [Bool.not_eq_true] at h
    rw [h]; rfl
end Go.Proofs.YtkkmjjddalpocaaDoor
