import Derived.Test.YtkkmjjddalpocaaDoorMoves
namespace Go.Proofs.YtkkmjjddalpocaaDoor
open Go.RowKit
set_option linter.unusedVariables false
set_option linter.unusedSimpArgs false
set_option maxHeartbeats 4000000
set_option maxRecDepth 20000
/-! ### The reference's Play: what its steps use -/
theorem mod_any (n m : Int) (w : World) (h0 : 1 ≤ m) (h1 : m ≤ 100) : Calls Tryd.prog 38 #[.int .i64 n, .int .i64 m] w fun e w' => e = .returned (.int .i64 (n % m)) ∧ w = w' := by
  obtain ⟨⟨h2, h3⟩, h⟩ := tmod_cases n m (by omega)
  have hm0 : (m == 0) = false := by rw [beq_eq_false_iff_ne]; omega
  have hm1 : ¬ m = 0 := by omega
  have hm2 : ¬ m < 1 := by omega
  rcases h with ⟨h4, h5⟩ | ⟨h4, h5, h6⟩
  · have h7 : ¬ n.tmod m < 0 := by omega
    rw [← h4]
    clear h4 h5 h2 h3
    go_enter Tryd.func38, Tryd.ntmps38
    go_wp2_with fail
    go_ret
    exact ⟨rfl, rfl⟩
  · have h7 : n.tmod m < 0 := by omega
    have h8 : wrap64 (n.tmod m + m) = n % m := by rw [h4]; unfold wrap64; omega
    clear h4 h5 h6 h2 h3
    go_enter Tryd.func38, Tryd.ntmps38
    go_wp2_with fail
    go_ret
    exact ⟨rfl, rfl⟩
theorem floor_any (n : Int) (w : World) (h0 : -9223372036854775808 ≤ n) (h1 : n ≤ 9223372036854775807) : Calls Tryd.prog 39 #[.int .i64 n, .int .i64 6] w fun e w' => e = .returned (.int .i64 (n / 6)) ∧ w = w' := by
  obtain ⟨_, E4, _⟩ := deed_num n h0 h1
  have q1 : wrap64 (n.tdiv 6) = n.tdiv 6 := by
    have e1 := Int.mul_tdiv_add_tmod n 6
    obtain ⟨⟨h2, h3⟩, h | h⟩ := tmod_cases n 6 (by omega)
    · unfold wrap64; omega
    · unfold wrap64; omega
  rw [q1] at E4
  rcases E4 with ⟨E4, E8⟩ | ⟨E4, E8⟩
  all_goals
    go_enter Tryd.func39, Tryd.ntmps39
    rw [← E8]
    clear E8 q1
    go_wp2_with fail
    go_ret
    exact ⟨rfl, rfl⟩
theorem ron_step (b : Nat) (s : TS) (e : Ev) (w : World) (hp : Pt w b RSide (toRS s).cells) (hi : Inv s) :
    Calls Tryd.prog 18 #[.pointer (some ⟨b, 0, none⟩), e.val] w (RPost b w (toRS (stepT s e).1, (stepT s e).2.1, (stepT s e).2.2)) := by
  have := ron_any b (toRS s) e w hp hi.1
  rwa [(step_sim s e hi).1] at this
theorem rmine_is (b : Nat) (s : TS) (w : World) (hp : Pt w b RSide (toRS s).cells) (hi : Inv s) : Calls Tryd.prog 33 #[.pointer (some ⟨b, 0, none⟩)] w fun e w' => e = .returned (.int .i64 s.mine) ∧ w = w' := by
  have h := rMine_any b (toRS s) w hp
  have : (toRS s).setV 1 = s.mine := (sim_spec (a := 0) hi.2 (by omega) (by omega)).2.2.1
  rwa [this] at h
/-- What a side tells upon a deed of its own goes all down. -/
theorem local_downs (s : TS) (e : Ev) (hi : Inv s) (hw : e.way = 0) (hk : e.kind = 1 ∨ e.kind = 2) (a0 : 0 ≤ e.a) (a1 : e.a ≤ 15) (b0 : 0 ≤ e.b) (b1 : e.b ≤ 9) : downs (stepT s e).2.1 = (stepT s e).2.1 := by
  rcases step_local s e hi hw hk a0 a1 b0 b1 with ⟨h, _⟩ | ⟨h, _⟩ | ⟨_, h, _⟩ <;> rw [h] <;> rfl
def sumG (s : Int) (l : List Ev) : Int := l.foldl (fun s e => if e.kind = 2 then s + e.a else s) s
theorem sumG_snoc (s : Int) (l : List Ev) (i : Nat) (h : i < l.length) : sumG s (l.take (i + 1)) = if l[i].kind = 2 then sumG s (l.take i) + l[i].a else sumG s (l.take i) := by
  unfold sumG
  rw [List.take_succ_eq_append_getElem h, List.foldl_append]
  rfl
theorem or_sum {x y : Int} (x0 : 0 ≤ x) (x1 : x ≤ 15) (y0 : 0 ≤ y) (y1 : y ≤ 15) (hs : ∀ k, k < 4 → bt k x + bt k y ≤ 1) : bits .or .i64 x y = x + y := by
  obtain ⟨_, h0, h1, h2⟩ := join_bits x0 x1 y0 y1 hs
  have e1 := bt_val x x0 x1; have e2 := bt_val y y0 y1; have e3 := bt_val _ h0 h1
  have g0 := h2 0 (by omega); have g1 := h2 1 (by omega); have g2 := h2 2 (by omega); have g3 := h2 3 (by omega)
  omega
theorem orGives_sum (l : List Ev) : ∀ (s : Int), 0 ≤ s → s ≤ 15 → (∀ e ∈ l, fineD e) → (∀ k, k < 4 → bt k s + cnt k l ≤ 1) → orGives s l = sumG s l := by
  induction l with
  | nil => intro s _ _ _ _; rfl
  | cons e l ih =>
    intro s s0 s1 hf hb
    by_cases hk2 : e.kind = 2
    · have he := hf e (by simp)
      have hb' : ∀ k, k < 4 → bt k s + bt k e.a ≤ 1 := fun k hk => by
        have := hb k hk
        simp only [cnt, if_pos hk2] at this
        have := cnt_nn k l
        omega
      obtain ⟨_, j0, j1, j2⟩ := join_bits s0 s1 he.2.1 he.2.2.1 hb'
      have := ih (bits .or .i64 s e.a) j0 j1 (fun x hx => hf x (by simp [hx])) (fun k hk => by
        have := hb k hk
        simp only [cnt, if_pos hk2] at this
        rw [j2 k hk]; omega)
      have hs : orGives s (e :: l) = orGives (bits .or .i64 s e.a) l := by simp [orGives, hk2]
      have hs2 : sumG s (e :: l) = sumG (s + e.a) l := by simp [sumG, hk2]
      rw [hs, hs2, this, or_sum s0 s1 he.2.1 he.2.2.1 hb']
    · have := ih s s0 s1 (fun x hx => hf x (by simp [hx])) (fun k hk => by have := hb k hk; simp only [cnt, if_neg hk2] at this; omega)
      have hs : orGives s (e :: l) = orGives s l := by simp [orGives, hk2]
      have hs2 : sumG s (e :: l) = sumG s l := by simp [sumG, hk2]
      rw [hs, hs2, this]
theorem sumG_mono (l : List Ev) : ∀ s : Int, (∀ e ∈ l, fineD e) → s ≤ sumG s l := by
  induction l with
  | nil => intro s _; exact Int.le_refl _
  | cons e l ih =>
    intro s hf
    have he := hf e (by simp)
    have h1 := ih (if e.kind = 2 then s + e.a else s) (fun x hx => hf x (by simp [hx]))
    show s ≤ sumG (if e.kind = 2 then s + e.a else s) l
    refine Int.le_trans ?_ h1
    have := he.2.1
    split <;> omega
theorem sumG_app (s : Int) (l r : List Ev) : sumG s (l ++ r) = sumG (sumG s l) r := List.foldl_append
/-- The sum of what is on the way, as the reference has it. -/
theorem J.sums {U : Int} {p : PS} (h : J U p) (u0 : 0 ≤ U) (u1 : U ≤ 15) : orGives (orGives 0 p.wa) p.wb = sumG (sumG 0 p.wa) p.wb ∧ sumG (sumG 0 p.wa) p.wb ≤ 15 := by
  have z : ∀ k, bt k 0 = 0 := fun k => by simp [bt]
  have bd : ∀ k, k < 4 → cnt k p.wa + cnt k p.wb ≤ 1 ∧ 0 ≤ cnt k p.wa ∧ 0 ≤ cnt k p.wb := fun k hk => by
    have := h.sum k hk; have := bt_01 k U; have := bt_01 k p.a.mine; have := bt_01 k p.b.mine
    exact ⟨by omega, cnt_nn _ _, cnt_nn _ _⟩
  obtain ⟨g0, g1, g2⟩ := orGives_bits p.wa 0 (by omega) (by omega) h.fa (fun k hk => by have := bd k hk; rw [z]; omega)
  have e1 := orGives_sum p.wa 0 (by omega) (by omega) h.fa (fun k hk => by have := bd k hk; rw [z]; omega)
  have e2 := orGives_sum p.wb (orGives 0 p.wa) g0 g1 h.fb (fun k hk => by have := bd k hk; rw [g2 k hk, z]; omega)
  have e3 := (h.one u0 u1).2.1
  rw [e1] at e2
  rw [e1]
  rw [e1] at e3
  exact ⟨e2, by rw [← e2]; exact e3⟩
/-- The memory of the reference's play. -/
structure PR (base : Nat) (w : World) (bs bw b0 b1 : Nat) (p : PS) (v0 v1 : Value) (o0 o1 : Option Nat) : Prop where
  sides : Pt w bs 68 [.pointer (some ⟨b0, 0, none⟩), .pointer (some ⟨b1, 0, none⟩)]
  way : Pt w bw TWays [v0, v1]
  row0 : Row 6 w v0 p.wa.length (evCells p.wa) o0
  row1 : Row 6 w v1 p.wb.length (evCells p.wb) o1
  apart : ∀ x, o0 = some x → o1 ≠ some x
  new0 : ∀ x, o0 = some x → base ≤ x ∧ x ≠ bs ∧ x ≠ bw ∧ x ≠ b0 ∧ x ≠ b1
  new1 : ∀ x, o1 = some x → base ≤ x ∧ x ≠ bs ∧ x ≠ bw ∧ x ≠ b0 ∧ x ≠ b1
  sa : Pt w b0 RSide (toRS p.a).cells
  sb : Pt w b1 RSide (toRS p.b).cells
  ge : base ≤ bs ∧ base ≤ bw ∧ base ≤ b0 ∧ base ≤ b1
  ne : bs ≠ bw ∧ bs ≠ b0 ∧ bs ≠ b1 ∧ bw ≠ b0 ∧ bw ≠ b1 ∧ b0 ≠ b1
  inva : Inv p.a
  invb : Inv p.b
theorem PR.fr {base : Nat} {w w' : World} {bs bw b0 b1 : Nat} {p : PS} {v0 v1 : Value} {o0 o1 : Option Nat} (h : PR base w bs bw b0 b1 p v0 v1 o0 o1) (hf : Fr [] w w') : PR base w' bs bw b0 b1 p v0 v1 o0 o1 :=
  { sides := hf.pt h.sides (by simp), way := hf.pt h.way (by simp), row0 := h.row0.fr hf (by simp), row1 := h.row1.fr hf (by simp), apart := h.apart, new0 := h.new0, new1 := h.new1, sa := hf.pt h.sa (by simp), sb := hf.pt h.sb (by simp), ge := h.ge, ne := h.ne, inva := h.inva, invb := h.invb }
end Go.Proofs.YtkkmjjddalpocaaDoor
