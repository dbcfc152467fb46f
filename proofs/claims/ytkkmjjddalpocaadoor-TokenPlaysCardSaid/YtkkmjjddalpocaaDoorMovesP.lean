import Derived.Test.YtkkmjjddalpocaaDoorOpen3
namespace Go.Proofs.YtkkmjjddalpocaaDoor
open Go.RowKit
set_option linter.unusedVariables false
set_option linter.unusedSimpArgs false
/-! ### The plain law of TokenMoves -/
def reps : Nat → List Int
  | 0 => []
  | n + 1 => reps n ++ [4, 5]
theorem reps_len (n : Nat) : (reps n).length = 2 * n := by
  induction n with
  | zero => rfl
  | succ n ih => simp only [reps, List.length_append, ih, List.length_cons, List.length_nil]; omega
theorem runP_app (p : PS) (l r : List Int) : runP p (l ++ r) = runP (runP p l) r := List.foldl_append
theorem run_45 (p : PS) : runP p [4, 5] = popP (popP p 0) 1 := by
  show stepP (stepP p 4) 5 = _
  unfold stepP
  rw [show (4 : Int) % 6 = 4 by decide, show (5 : Int) % 6 = 5 by decide, deed_4, deed_5]
theorem drained {U : Int} (n : Nat) : ∀ {p : PS}, J U p → J U (runP p (reps n)) ∧ (runP p (reps n)).wa = p.wa.drop n ∧ (runP p (reps n)).wb = p.wb.drop n := by
  induction n with
  | zero => intro p h; exact ⟨h, rfl, rfl⟩
  | succ n ih =>
    intro p h
    obtain ⟨h1, h2, h3⟩ := ih h
    rw [reps, runP_app, run_45]
    obtain ⟨a1, a2, a3⟩ := J_pop0 h1
    obtain ⟨b1, b2, b3⟩ := J_pop1 a1
    refine ⟨b1, by rw [b2, a2, h2, List.tail_drop], by rw [b3, a3, h3, List.tail_drop]⟩
def subOk (x a : Int) : Bool := !(([0, 1, 2, 3] : List Nat).all fun k => decide (bt k a ≤ bt k x)) || bits .and .i64 x a == a
theorem subOk_all : (List.range 16).all (fun i => (List.range 16).all fun j => (List.range 16).all fun k => (subOk i j || k == 16)) = true := by decide +kernel
theorem sub_bits {x a : Int} (x0 : 0 ≤ x) (x1 : x ≤ 15) (a0 : 0 ≤ a) (a1 : a ≤ 15) (hs : ∀ k, k < 4 → bt k a ≤ bt k x) : bits .and .i64 x a = a := by
  have := all16_3 (p := fun i j k => subOk i j || k == 16) subOk_all x a 0 x0 x1 a0 a1 (by omega) (by omega)
  simp only [subOk, to4 hs, Bool.not_true, Bool.false_or, Bool.or_eq_true] at this
  rcases this with h | h
  · simpa using h
  · simp at h
def lastOk (x k : Int) : Bool := !decide (x ≤ k) || (bits .and .i64 x k == k) == decide (x = k)
theorem lastOk_all : (List.range 16).all (fun i => (List.range 16).all fun j => (List.range 16).all fun k => (lastOk i j || k == 16)) = true := by decide +kernel
theorem last_bits {x k : Int} (x0 : 0 ≤ x) (x1 : x ≤ k) (k1 : k ≤ 15) : (bits .and .i64 x k == k) = decide (x = k) := by
  have := all16_3 (p := fun i j k => lastOk i j || k == 16) lastOk_all x k 0 x0 (by omega) (by omega) k1 (by omega) (by omega)
  simp only [lastOk, show decide (x ≤ k) = true from decide_eq_true x1, Bool.not_true, Bool.false_or, Bool.or_eq_true] at this
  rcases this with h | h
  · simpa using h
  · simp at h
theorem moves_end {m t : Int} (h : setOk m t = true) (ds : List Int) (hl : ds.length ≤ 60) :
    J (m + t) (runP (startP m t) (ds ++ reps 70)) ∧ (runP (startP m t) (ds ++ reps 70)).wa = [] ∧ (runP (startP m t) (ds ++ reps 70)).wb = [] := by
  rw [runP_app]
  obtain ⟨h1, h2, h3⟩ := drained 70 (J_run ds (J_start h))
  have hl2 := runP_len m t ds
  exact ⟨h1, by rw [h2]; exact List.drop_eq_nil_of_le (by omega), by rw [h3]; exact List.drop_eq_nil_of_le (by omega)⟩
theorem moves_last {U : Int} {q : PS} (u0 : 0 ≤ U) (u1 : U ≤ 15) (h : J U q) (ha : q.wa = []) (hb : q.wb = []) (A : Int) (hA : q.a.mine = A) (hz : A ≠ 0) :
    J U (runP q [2 + 6 * A, 5]) ∧ (runP q [2 + 6 * A, 5]).wa = [] ∧ (runP q [2 + 6 * A, 5]).wb = [] ∧ bits .and .i64 (runP q [2 + 6 * A, 5]).a.mine A = 0 ∧ bits .and .i64 (runP q [2 + 6 * A, 5]).b.mine A = A := by
  have hJ := J_run [2 + 6 * A, 5] h
  obtain ⟨_, a0, a1, _⟩ := Inv.good h.ia
  rw [hA] at a0 a1
  have hrun : runP q [2 + 6 * A, 5] = popP (meetP q 0 (giveEv A)) 1 := by
    show stepP (stepP q (2 + 6 * A)) 5 = _
    unfold stepP
    rw [show (2 + 6 * A) % 6 = 2 by omega, show (2 + 6 * A) / 6 = A by omega, show (5 : Int) % 6 = 5 by decide, deed_2, deed_5]
  have hev : giveEv A = ⟨0, 2, A, 0, 0, ByteArray.empty⟩ := by unfold giveEv; rw [show A % 16 = A by omega]
  have hself : (bits .and .i64 A A == A) = true := self15 A a0 a1
  have hst : (stepT q.a (giveEv A)).2.1 = [downEv 2 A 0] ∧ ∀ k, k < 4 → bt k (stepT q.a (giveEv A)).1.mine = bt k A - bt k A := by
    rw [hev]
    unfold stepT
    rw [if_pos (by simp [onFine]; omega)]
    unfold onSt
    rw [if_neg (by simp), if_neg (by simp), if_pos rfl]
    unfold giveUp
    rw [hA, if_neg (by rw [hself]; simp [hz])]
    refine ⟨rfl, fun k hk => ?_⟩
    have hf := forgetN_keeps (toks A) { q.a with mine := bits .andNot .i64 A A, theirs := bits .or .i64 q.a.theirs A }
    dsimp only
    rw [hf.1]
    have := give_bits h.ia.2 a0 a1 (by rw [hA]; exact hself) k hk
    rw [hA] at this
    exact this.1
  have hm : meetP q 0 (giveEv A) = { q with a := (stepT q.a (giveEv A)).1, wb := [downEv 2 A 0] } := by
    have hd : downs [downEv 2 A 0] = [downEv 2 A 0] := rfl
    simp [meetP, hst.1, hb, hd]
  have hJ1 : J U (meetP q 0 (giveEv A)) := by
    refine J_local h _ rfl (.inr rfl) ?_ ?_ (Int.le_refl 0) (show (0 : Int) ≤ 9 by omega)
    · rw [hev]; exact a0
    · rw [hev]; exact a1
  have hp := J_pop1 hJ1
  rw [hrun]
  rw [hrun] at hJ
  obtain ⟨e1, e2, e3⟩ := hp
  have hwa : (popP (meetP q 0 (giveEv A)) 1).wa = [] := by rw [e2, hm]; exact ha
  have hwb : (popP (meetP q 0 (giveEv A)) 1).wb = [] := by rw [e3, hm]; rfl
  have hAm : (popP (meetP q 0 (giveEv A)) 1).a = (stepT q.a (giveEv A)).1 := by
    unfold popP
    rw [if_neg (by omega), hm]
    simp [meetP]
  have hA0 : ∀ k, k < 4 → bt k (popP (meetP q 0 (giveEv A)) 1).a.mine = 0 := fun k hk => by rw [hAm, hst.2 k hk]; omega
  obtain ⟨_, c0, c1, _⟩ := Inv.good e1.ia
  obtain ⟨_, d0, d1, _⟩ := Inv.good e1.ib
  refine ⟨e1, hwa, hwb, (join_bits c0 c1 a0 a1 fun k hk => by rw [hA0 k hk]; have := bt_01 k A; omega).1, sub_bits d0 d1 a0 a1 fun k hk => ?_⟩
  have s1 := e1.sum k hk
  rw [hwa, hwb, hA0 k hk] at s1
  simp only [cnt] at s1
  have s2 := h.sum k hk
  rw [ha, hb, hA] at s2
  simp only [cnt] at s2
  have := bt_01 k q.b.mine
  omega
end Go.Proofs.YtkkmjjddalpocaaDoor
