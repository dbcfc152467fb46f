import Derived.Test.YtjgmlnkbplgloaaQ6
import Derived.Test.YtjgmlnkbplgloaaQ7
namespace Go.Proofs.Ytjgmlnkbplgloaa
open Go.RowKit
set_option linter.unusedVariables false
set_option linter.unusedSimpArgs false
set_option maxHeartbeats 8000000
set_option maxRecDepth 20000
/-! ### Plain: the play, deed by deed -/
structure PQ where
  sd : Bool → SS
  q : Bool → List Ev
def PQ.meet (p : PQ) (j : Bool) (e : Ev) : PQ := ⟨mtS p.sd j e, mtQ p.sd p.q j e⟩
def majE (t : Int) : Ev := ⟨0, if t % 2 = 1 then 4 else 3, 0, 0, 0, ByteArray.empty⟩
def cnfE (a t : Int) : Ev := ⟨0, 2, a + t % 3, 0, 0, ByteArray.empty⟩
def agnE (r t : Int) : Ev := ⟨0, 5, if t % 3 = 2 then t % 1000000 else r + t / 3 % 5, t % 3, 0, ByteArray.empty⟩
def PQ.pop (p : PQ) (j : Bool) : PQ := match p.q j with | [] => p | e :: t => PQ.meet ⟨p.sd, upd p.q j t⟩ j e
def PQ.act (p : PQ) (d : Int) (j : Bool) (t : Int) : PQ :=
  if d = 0 ∨ d = 1 ∨ d = 2 then p.meet j ptE
  else if d = 3 then p.meet j (majE t)
  else if d = 4 then p.meet j (cnfE (p.sd j).a t)
  else if d = 5 then p.meet j (agnE (p.sd j).r t)
  else if d = 6 then if (p.sd j).kt = true then p.meet j (replyE (p.sd j).kn) else p
  else p.pop j
def sideOf (n : Int) : Bool := decide (n / 12 % 2 = 1)
def PQ.deed (p : PQ) (n : Int) : PQ := p.act (n % 12) (sideOf n) (n / 12 / 2)
def runQ (p : PQ) (l : List Int) : PQ := l.foldl PQ.deed p
theorem runQ_snoc (p : PQ) (l : List Int) (i : Nat) (h : i < l.length) : runQ p (l.take (i + 1)) = (runQ p (l.take i)).deed l[i] := by
  unfold runQ
  rw [List.take_succ_eq_append_getElem h, List.foldl_append]
  rfl
structure PI (k : Nat) (p : PQ) : Prop where
  sj : ∀ j, SJ k (p.sd j)
  sv : ∀ j, SV (p.sd j)
  len : ∀ j, (p.q j).length ≤ k
  dn : ∀ j, ∀ e ∈ p.q j, e.way = 1
theorem PI.le {k k' : Nat} {p : PQ} (h : PI k p) (hk : k ≤ k') : PI k' p := ⟨fun j => (h.sj j).le hk, h.sv, fun j => Nat.le_trans (h.len j) hk, h.dn⟩
theorem PI.meet {k : Nat} {p : PQ} (h : PI k p) (j : Bool) (e : Ev) : PI (k + 1) (p.meet j e) := by
  refine ⟨fun i => ?_, fun i => ?_, fun i => ?_, fun i x hx => ?_⟩
  · show SJ (k + 1) (upd p.sd j _ i); unfold upd; split
    · exact (h.sj j).on e
    · exact (h.sj i).le (Nat.le_succ k)
  · show SV (upd p.sd j _ i); unfold upd; split
    · exact (h.sv j).on (h.sj j).m0 e
    · exact h.sv i
  · have h1 := h.len (!j); have h2 := h.len i; have h3 := downs_one (p.sd j) e
    show (upd p.q (!j) _ i).length ≤ k + 1; unfold upd; split
    · rw [List.length_append]; omega
    · omega
  · replace hx : x ∈ upd p.q (!j) (p.q (!j) ++ downs (onS (p.sd j) e).2.1) i := hx
    unfold upd at hx; split at hx
    · rcases List.mem_append.mp hx with hx | hx
      · exact h.dn _ x hx
      · have := (List.mem_filter.mp hx).2; simpa using this
    · exact h.dn _ x hx
theorem PI.less {k : Nat} {p : PQ} (h : PI k p) (j : Bool) {e : Ev} {t : List Ev} (hq : p.q j = e :: t) : PI k ⟨p.sd, upd p.q j t⟩ := by
  refine ⟨h.sj, h.sv, fun i => ?_, fun i x hx => ?_⟩
  · show (upd p.q j t i).length ≤ k; unfold upd; split
    · have := h.len j; rw [hq] at this; simp at this; omega
    · exact h.len i
  · replace hx : x ∈ upd p.q j t i := hx
    unfold upd at hx; split at hx
    · exact h.dn j x (by rw [hq]; simp [hx])
    · exact h.dn i x hx
theorem PI.pop {k : Nat} {p : PQ} (h : PI k p) (j : Bool) : PI (k + 1) (p.pop j) := by
  unfold PQ.pop
  split
  · exact h.le (Nat.le_succ k)
  · rename_i hq; exact (h.less j hq).meet j _
theorem PI.deed {k : Nat} {p : PQ} (h : PI k p) (n : Int) : PI (k + 1) (p.deed n) := by
  unfold PQ.deed PQ.act
  repeat' split
  all_goals first | exact h.meet _ _ | exact h.le (Nat.le_succ k) | exact h.pop _
def startQ (N : Int) : PQ := ⟨sd0 N, fun _ => []⟩
theorem PI.start {N : Int} (hN : 0 ≤ N ∧ N ≤ 999999) : PI 0 (startQ N) :=
  ⟨fun j => ⟨rfl, hN, .inl rfl, by simp [startQ, sd0], by simp [startQ, sd0]⟩, fun j => ⟨⟨hN.1, Int.le_refl _, Int.le_refl _⟩, by simp [startQ, sd0], by simp [startQ, sd0], by simp [startQ, sd0]⟩, by simp [startQ], by simp [startQ]⟩
theorem PI.run {N : Int} (hN : 0 ≤ N ∧ N ≤ 999999) (l : List Int) : PI l.length (runQ (startQ N) l) := by
  suffices h : ∀ (l : List Int) (k : Nat) (p : PQ), PI k p → PI (k + l.length) (runQ p l) by
    have := h l 0 _ (PI.start hN); rwa [Nat.zero_add] at this
  intro l
  induction l with
  | nil => exact fun k p h => h
  | cons n t ih =>
    intro k p h
    have := ih (k + 1) _ (h.deed n)
    rw [List.length_cons]
    rw [show k + (t.length + 1) = k + 1 + t.length by omega]
    exact this
/-- Nothing is on the way, and nobody waits or owes. -/
def PQ.quiet (p : PQ) : Bool := decide ((p.q false).length = 0) && decide ((p.q true).length = 0) && !(p.sd false).wt && !(p.sd false).kt && !(p.sd true).wt && !(p.sd true).kt
def playQ (N : Int) (l : List Int) : Int × Int × Bool × Int := if (0 ≤ N ∧ N ≤ 999999) ∧ l.length ≤ 300 then (((runQ (startQ N) l).sd false).m, ((runQ (startQ N) l).sd true).m, (runQ (startQ N) l).quiet, 0) else (0, 0, false, 1)
theorem tmod_norm (x m : Int) (hm : 0 < m) (hm2 : m ≤ 1000000) : (wrap64 (x.tmod m + m)).tmod m = x % m := by
  obtain ⟨⟨h2, h3⟩, h | h⟩ := tmod_cases x m hm
  · rw [h.1]
    have : wrap64 (x % m + m) = x % m + m := by unfold wrap64; omega
    rw [this, Int.tmod_eq_emod_of_nonneg (by omega), Int.add_emod_right, Int.emod_emod_of_dvd _ (Int.dvd_refl m)]
  · rw [h.1]
    have : wrap64 (x % m - m + m) = x % m := by unfold wrap64; omega
    rw [this, Int.tmod_eq_emod_of_nonneg h2, Int.emod_emod_of_dvd _ (Int.dvd_refl m)]
theorem rest_any (n m : Int) (w : World) (hm : m = 2 ∨ m = 3 ∨ m = 5 ∨ m = 12 ∨ m = 1000000) (h0 : -9223372036854775808 ≤ n) (h1 : n ≤ 9223372036854775807) :
    Calls Try.prog 33 #[.int .i64 n, .int .i64 m] w fun e w' => e = .returned (.tuple #[.int .i64 (n % m), .int .i64 (n / m)]) ∧ w = w' := by
  have E := tmod_norm n m (by omega) (by omega)
  have T := tmod_cases n m (by omega)
  have e1 := Int.mul_tdiv_add_tmod n m
  have hm0 : (m == 0) = false := by rw [beq_eq_false_iff_ne]; omega
  have K : (n.tmod m < 0 ∧ wrap64 (n.tdiv m) = n.tdiv m ∧ wrap64 (n.tdiv m - 1) = n / m) ∨ (¬ n.tmod m < 0 ∧ n.tdiv m = n / m) := by
    obtain ⟨⟨h2, h3⟩, h | h⟩ := T
    · right
      refine ⟨by omega, ?_⟩
      rcases hm with rfl | rfl | rfl | rfl | rfl <;> omega
    · left
      refine ⟨by omega, ?_, ?_⟩ <;> rcases hm with rfl | rfl | rfl | rfl | rfl <;> (unfold wrap64; omega)
  clear T e1
  rcases K with ⟨k1, k2, k3⟩ | ⟨k1, k2⟩
  all_goals
    rcases hm with rfl | rfl | rfl | rfl | rfl
    all_goals
      go_enter Try.func33, Try.ntmps33
      go_wp2_with fail
      go_ret2
      first | exact ⟨by rw [k3]; rfl, rfl⟩ | exact ⟨by rw [k2]; rfl, rfl⟩ | exact ⟨rfl, rfl⟩
end Go.Proofs.Ytjgmlnkbplgloaa
