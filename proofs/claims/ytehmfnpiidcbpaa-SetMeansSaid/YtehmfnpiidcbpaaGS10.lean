import Derived.Test.YtehmfnpiidcbpaaGS9
import Derived.Test.YtehmfnpiidcbpaaGHas
namespace Go.Proofs.Ytehmfnpiidcbpaa
open Go.RowKit
set_option linter.unusedVariables false
set_option linter.unusedSimpArgs false
set_option maxHeartbeats 16000000
set_option maxRecDepth 100000
/-! ### limited, both, Union, Meet, Except -/
theorem PIn.nil (w : World) : PIn w (.slice none 0 0) [] := ⟨none, 0, rfl, fun i hi => by cases hi⟩
theorem PIn.slice {w : World} {v : Value} {l : List (Int × Int)} (h : PIn w v l) : ∃ o cap, v = .slice o l.length cap := by obtain ⟨o, cap, e, _⟩ := h; exact ⟨o, cap, e⟩
theorem ret_2 {v : Value} {a b : Int} (h : a = b) : Ending.returned (.tuple #[v, .int .i64 a]) = .returned (.tuple #[v, .int .i64 b]) := by rw [h]
theorem limited_no (v : Value) (L : List (Int × Int)) (w : World) (h : PIn w v L) (hn : 100 < L.length) :
    Calls Try.prog 44 #[v] w fun e w' => e = .returned (.tuple #[.slice none 0 0, .int .i64 2]) ∧ w = w' := by
  obtain ⟨o, cap, rfl⟩ := h.slice
  obtain ⟨N, hN⟩ : ∃ N, L.length = N := ⟨_, rfl⟩
  rw [hN] at hn ⊢
  have hI : (100 : Int) < (N : Int) := by omega
  replace h := Lib.hid h; replace hN := Lib.hid hN
  go_enter Try.func44, Try.ntmps44
  go_wp2_with fail
  go_ret2
  exact ⟨rfl, rfl⟩
theorem limited_ok (v : Value) (L : List (Int × Int)) (w : World) (h : PIn w v L) (hn : L.length ≤ 100) :
    Calls Try.prog 44 #[v] w fun e w' => e = .returned (.tuple #[v, .int .i64 0]) ∧ w = w' := by
  obtain ⟨o, cap, rfl⟩ := h.slice
  obtain ⟨N, hN⟩ : ∃ N, L.length = N := ⟨_, rfl⟩
  rw [hN] at hn ⊢
  have hI : ¬ (100 : Int) < (N : Int) := by omega
  replace h := Lib.hid h; replace hN := Lib.hid hN
  go_enter Try.func44, Try.ntmps44
  go_wp2_with fail
  go_ret2
  exact ⟨rfl, rfl⟩
/-- What an operation on two sets hands back. -/
def OpR (m : Int → Prop) (a b : List (Int × Int)) (w : World) (e : Ending) (w' : World) : Prop := ∃ v l c, e = .returned (.tuple #[v, .int .i64 c]) ∧ PIn w' v l ∧ OpP a b m c l ∧ Fr [] w w'
theorem limR {m : Int → Prop} {a b : List (Int × Int)} {w W : World} {v : Value} {L : List (Int × Int)} (hok : okAB a b = true) (h1 : Nf L) (h2 : ∀ x, inS L x ↔ m x) (h3 : PIn W v L) (hf : Fr [] w W) :
    Calls Try.prog 44 #[v] W (OpR m a b w) := by
  by_cases hl : L.length ≤ 100
  · refine (limited_ok v L W h3 hl).mono ?_
    rintro e w' ⟨rfl, rfl⟩
    exact ⟨v, L, 0, rfl, h3, .inr ⟨hok, L, h1, h2, .inr ⟨rfl, rfl, hl⟩⟩, hf⟩
  · refine (limited_no v L W h3 (by omega)).mono ?_
    rintro e w' ⟨rfl, rfl⟩
    exact ⟨_, [], 2, rfl, PIn.nil _, .inr ⟨hok, L, h1, h2, .inl ⟨rfl, rfl, by omega⟩⟩, hf⟩
theorem both_any (m : Int → Prop) (fn : FuncId) (hcf : ∀ W args, (callFunc fn args).run Try.prog W = .ok (.enter fn args) W) (va vb : Value) (a b : List (Int × Int)) (w : World) (ha : PIn w va a) (hb : PIn w vb b) (hna : a.length ≤ 9223372036854775807) (hnb : b.length ≤ 9223372036854775807)
    (hc : okAB a b = true → ∀ W, Fr [] w W → Calls Try.prog fn #[va, vb] W (NewR m W)) :
    Calls Try.prog 30 #[va, vb, .func (.func fn) #[] #[]] w (OpR m a b w) := by
  have V1 := valid_any va a w ha hna
  obtain ⟨A, hA⟩ : ∃ A, valS a = A := ⟨_, rfl⟩
  obtain ⟨B, hB⟩ : ∃ B, valS b = B := ⟨_, rfl⟩
  rw [hA] at V1
  have hno : (A && B) = false → OpP a b m 1 [] := fun h => .inl ⟨by unfold okAB; rw [hA, hB]; exact h, rfl, rfl⟩
  have hyes : (A && B) = true → okAB a b = true := fun h => by unfold okAB; rw [hA, hB]; exact h
  cases A
  · have hn := hno rfl
    replace ha := Lib.hid ha; replace hb := Lib.hid hb; replace V1 := Lib.hid V1; replace hA := Lib.hid hA; replace hB := Lib.hid hB; replace hno := Lib.hid hno; replace hyes := Lib.hid hyes; replace hc := Lib.hid hc; replace hn := Lib.hid hn
    go_enter Try.func30, Try.ntmps30
    go_wp2_with fail
    refine (V1.out).mono ?_
    rintro e w1 ⟨rfl, f1⟩
    replace f1 := Lib.hid f1
    go_wp2_with fail
    go_ret2
    exact ⟨_, [], 1, rfl, PIn.nil _, hn.out, f1.out⟩
  · cases B
    · have hn := hno rfl
      replace ha := Lib.hid ha; replace hb := Lib.hid hb; replace V1 := Lib.hid V1; replace hA := Lib.hid hA; replace hB := Lib.hid hB; replace hno := Lib.hid hno; replace hyes := Lib.hid hyes; replace hc := Lib.hid hc; replace hn := Lib.hid hn
      go_enter Try.func30, Try.ntmps30
      go_wp2_with fail
      refine (V1.out).mono ?_
      rintro e w1 ⟨rfl, f1⟩
      have V2 := valid_any vb b w1 (hb.out.fr f1) hnb
      rw [hB.out] at V2
      replace f1 := Lib.hid f1; replace V2 := Lib.hid V2
      go_wp2_with fail
      refine (V2.out).mono ?_
      rintro e w2 ⟨rfl, f2⟩
      have F2 := f1.out.trans f2
      replace f2 := Lib.hid f2; replace F2 := Lib.hid F2
      go_wp2_with fail
      go_ret2
      exact ⟨_, [], 1, rfl, PIn.nil _, hn.out, F2.out⟩
    · have hk := hyes rfl
      have hc := hc hk
      replace ha := Lib.hid ha; replace hb := Lib.hid hb; replace V1 := Lib.hid V1; replace hA := Lib.hid hA; replace hB := Lib.hid hB; replace hno := Lib.hid hno; replace hyes := Lib.hid hyes; replace hc := Lib.hid hc; replace hk := Lib.hid hk
      go_enter Try.func30, Try.ntmps30
      go_wp2_with fail
      refine (V1.out).mono ?_
      rintro e w1 ⟨rfl, f1⟩
      have V2 := valid_any vb b w1 (hb.out.fr f1) hnb
      rw [hB.out] at V2
      replace f1 := Lib.hid f1; replace V2 := Lib.hid V2
      go_wp2_with fail
      refine (V2.out).mono ?_
      rintro e w2 ⟨rfl, f2⟩
      have F2 := f1.out.trans f2
      have C := hc.out w2 F2
      replace f2 := Lib.hid f2; replace F2 := Lib.hid F2; replace C := Lib.hid C
      go_wp2_with fail
      try rw [hcf]
      refine (C.out).mono ?_
      rintro e w3 ⟨L, v, rfl, n1, n2, n3, n4, f3⟩
      have LR := limR hk.out n1 n2 n4 (F2.out.trans f3)
      replace n1 := Lib.hid n1; replace n2 := Lib.hid n2; replace n4 := Lib.hid n4; replace f3 := Lib.hid f3; replace LR := Lib.hid LR
      go_wp2_with fail
      refine (LR.out).mono ?_
      rintro e w4 ⟨v4, l4, c4, rfl, p4, o4, f4⟩
      replace p4 := Lib.hid p4; replace o4 := Lib.hid o4; replace f4 := Lib.hid f4
      go_wp2_with fail
      go_ret2
      exact ⟨_, _, _, rfl, p4.out, o4.out, f4.out⟩
theorem union_any (va vb : Value) (a b : List (Int × Int)) (w : World) (ha : PIn w va a) (hb : PIn w vb b) (hna : a.length ≤ 9223372036854775807) (hnb : b.length ≤ 9223372036854775807) :
    Calls Try.prog 9 #[va, vb] w (OpR (unM a b) a b w) := by
  have C := both_any (unM a b) 31 cf_union1 va vb a b w ha hb hna hnb (fun h W f => union1_any va vb a b W (ha.fr f) (hb.fr f) (okAB_iff.1 h).1 (okAB_iff.1 h).2)
  replace ha := Lib.hid ha; replace hb := Lib.hid hb; replace C := Lib.hid C
  go_enter Try.func9, Try.ntmps9
  go_wp2_with fail
  refine (C.out).mono ?_
  rintro e w4 ⟨v4, l4, c4, rfl, p4, o4, f4⟩
  replace p4 := Lib.hid p4; replace o4 := Lib.hid o4; replace f4 := Lib.hid f4
  go_wp2_with fail
  go_ret2
  exact ⟨_, _, _, rfl, p4.out, o4.out, f4.out⟩
theorem Meet_any (va vb : Value) (a b : List (Int × Int)) (w : World) (ha : PIn w va a) (hb : PIn w vb b) (hna : a.length ≤ 9223372036854775807) (hnb : b.length ≤ 9223372036854775807) :
    Calls Try.prog 11 #[va, vb] w (OpR (meM a b) a b w) := by
  have C := both_any (meM a b) 34 cf_common va vb a b w ha hb hna hnb (fun h W f => meet_any va vb a b W (ha.fr f) (hb.fr f) (okAB_iff.1 h).1 (okAB_iff.1 h).2)
  replace ha := Lib.hid ha; replace hb := Lib.hid hb; replace C := Lib.hid C
  go_enter Try.func11, Try.ntmps11
  go_wp2_with fail
  refine (C.out).mono ?_
  rintro e w4 ⟨v4, l4, c4, rfl, p4, o4, f4⟩
  replace p4 := Lib.hid p4; replace o4 := Lib.hid o4; replace f4 := Lib.hid f4
  go_wp2_with fail
  go_ret2
  exact ⟨_, _, _, rfl, p4.out, o4.out, f4.out⟩
theorem Except_any (va vb : Value) (a b : List (Int × Int)) (w : World) (ha : PIn w va a) (hb : PIn w vb b) (hna : a.length ≤ 9223372036854775807) (hnb : b.length ≤ 9223372036854775807) :
    Calls Try.prog 12 #[va, vb] w (OpR (exM a b) a b w) := by
  have C := both_any (exM a b) 35 cf_except1 va vb a b w ha hb hna hnb (fun h W f => except1_any va vb a b W (ha.fr f) (hb.fr f) (okAB_iff.1 h).1 (okAB_iff.1 h).2)
  replace ha := Lib.hid ha; replace hb := Lib.hid hb; replace C := Lib.hid C
  go_enter Try.func12, Try.ntmps12
  go_wp2_with fail
  refine (C.out).mono ?_
  rintro e w4 ⟨v4, l4, c4, rfl, p4, o4, f4⟩
  replace p4 := Lib.hid p4; replace o4 := Lib.hid o4; replace f4 := Lib.hid f4
  go_wp2_with fail
  go_ret2
  exact ⟨_, _, _, rfl, p4.out, o4.out, f4.out⟩
/-! ### Has -/
theorem has1_any (n : Int) (b : Nat) (x : Int × Int) (w : World) (hP : Pt w b 3 [.int .i64 n]) :
    Calls Try.prog 38 #[.agg #[.int .i64 x.1, .int .i64 x.2], .pointer (some ⟨b, 0, none⟩)] w fun e w' => e = .returned (.bool (decide (x.1 ≤ n) && decide (n ≤ x.2))) ∧ Fr [] w w' := by
  obtain ⟨x1, x2⟩ := x
  dsimp only
  obtain ⟨w1, hw1⟩ : ∃ x, w.alloc (.cells #[.int .i64 x1, .int .i64 x2] 51) = x := ⟨_, rfl⟩
  have P1 := Pt.newA w 51 #[.int .i64 x1, .int .i64 x2]
  rw [hw1] at P1
  have F1 : Fr [] w w1 := by rw [← hw1]; exact (Fr.refl [] w).alloc _
  obtain ⟨bx, hbx⟩ : ∃ x, w.heap.size = x := ⟨_, rfl⟩
  rw [hbx] at P1
  have Q1 := F1.pt hP (by simp)
  have k1 := P1.cell
  have q1 := Q1.cell
  clear hP
  replace P1 := Lib.hid P1; replace F1 := Lib.hid F1; replace Q1 := Lib.hid Q1
  by_cases h : x1 ≤ n
  · rw [decide_eq_true h, Bool.true_and]
    by_cases h2 : n ≤ x2
    · rw [decide_eq_true h2]
      have d0 := decide_eq_true h
      have d1 := decide_eq_true h2
      go_enter Try.func38, Try.ntmps38
      go_wp2_with fail
      go_ret
      exact ⟨rfl, F1.out⟩
    · rw [decide_eq_false h2]
      have d0 := decide_eq_true h
      have d1 := decide_eq_false h2
      go_enter Try.func38, Try.ntmps38
      go_wp2_with fail
      go_ret
      exact ⟨rfl, F1.out⟩
  · rw [decide_eq_false h, Bool.false_and]
    have d0 := decide_eq_false h
    go_enter Try.func38, Try.ntmps38
    go_wp2_with fail
    go_ret
    exact ⟨rfl, F1.out⟩
theorem any_hasF (l : List (Int × Int)) (n : Int) : (l.any fun x => decide (x.1 ≤ n) && decide (n ≤ x.2)) = hasF l n := rfl
/-- What Has hands back. -/
def HasR (l : List (Int × Int)) (n : Int) (w : World) (e : Ending) (w' : World) : Prop := (valS l = true ∧ e = .returned (.tuple #[.bool (hasF l n), .int .i64 0]) ∨ valS l = false ∧ e = .returned (.tuple #[.bool false, .int .i64 1])) ∧ Fr [] w w'
theorem Has_any (v : Value) (l : List (Int × Int)) (n : Int) (w : World) (h : PIn w v l) (hn : l.length ≤ 9223372036854775807) :
    Calls Try.prog 14 #[v, .int .i64 n] w (HasR l n w) := by
  obtain ⟨w0, hw0⟩ : ∃ x, w.alloc (.cells #[.int .i64 n] 3) = x := ⟨_, rfl⟩
  have P0 := Pt.newA w 3 #[.int .i64 n]
  rw [hw0] at P0
  have F0 : Fr [] w w0 := by rw [← hw0]; exact (Fr.refl [] w).alloc _
  obtain ⟨b0, hb0⟩ : ∃ x, w.heap.size = x := ⟨_, rfl⟩
  rw [hb0] at P0
  have V1 := valid_any v l w0 (h.fr F0) hn
  obtain ⟨V, hV⟩ : ∃ V, valS l = V := ⟨_, rfl⟩
  rw [hV] at V1
  cases V
  · skip
    replace h := Lib.hid h; replace P0 := Lib.hid P0; replace F0 := Lib.hid F0; replace V1 := Lib.hid V1; replace hV := Lib.hid hV
    go_enter Try.func14, Try.ntmps14
    go_wp2_with fail
    refine (V1.out).mono ?_
    rintro e w1 ⟨rfl, f1⟩
    replace f1 := Lib.hid f1
    go_wp2_with fail
    go_ret2
    exact ⟨.inr ⟨hV.out, rfl⟩, F0.out.trans f1.out⟩
  · have C := fun W (f : Fr [] w0 W) => containsP_any v l W ((h.fr F0).fr f) hn 38 #[.pointer (some ⟨b0, 0, none⟩)] _ cf_has1 (fun W2 x f2 _ => has1_any n b0 x W2 ((f.trans f2).pt P0 (by simp)))
    simp only [any_hasF] at C
    replace h := Lib.hid h; replace P0 := Lib.hid P0; replace F0 := Lib.hid F0; replace V1 := Lib.hid V1; replace hV := Lib.hid hV; replace C := Lib.hid C
    go_enter Try.func14, Try.ntmps14
    go_wp2_with fail
    refine (V1.out).mono ?_
    rintro e w1 ⟨rfl, f1⟩
    have C1 := C.out w1 f1
    replace f1 := Lib.hid f1; replace C1 := Lib.hid C1
    go_wp2_with fail
    refine (C1.out).mono ?_
    rintro e w2 ⟨rfl, f2⟩
    replace f2 := Lib.hid f2
    go_wp2_with fail
    go_ret2
    exact ⟨.inl ⟨hV.out, rfl⟩, (F0.out.trans f1.out).trans f2.out⟩
/-! ### Size -/
theorem szS_take (l : List (Int × Int)) (i : Nat) (h : i < l.length) (a b : Int) (hx : l[i] = (a, b)) : szS (l.take (i + 1)) = szS (l.take i) + (b - a + 1) := by
  unfold szS
  rw [List.take_succ_eq_append_getElem h, List.map_append, List.sum_append, hx]
  simp
def SizeR (l : List (Int × Int)) (w : World) (e : Ending) (w' : World) : Prop := (valS l = true ∧ e = .returned (.tuple #[.int .i64 (szS l), .int .i64 0]) ∨ valS l = false ∧ e = .returned (.tuple #[.int .i64 0, .int .i64 1])) ∧ Fr [] w w'
theorem ret_22 {a b c : Int} (h : a = b) : Ending.returned (.tuple #[.int .i64 a, .int .i64 c]) = .returned (.tuple #[.int .i64 b, .int .i64 c]) := by rw [h]
theorem Size_any (v : Value) (l : List (Int × Int)) (w : World) (h : PIn w v l) (hn : l.length ≤ 9223372036854775807) :
    Calls Try.prog 13 #[v] w (SizeR l w) := by
  have V1 := valid_any v l w h hn
  obtain ⟨V, hV⟩ : ∃ V, valS l = V := ⟨_, rfl⟩
  rw [hV] at V1
  cases V
  · skip
    replace h := Lib.hid h; replace V1 := Lib.hid V1; replace hV := Lib.hid hV
    go_enter Try.func13, Try.ntmps13
    go_wp2_with fail
    refine (V1.out).mono ?_
    rintro e w1 ⟨rfl, f1⟩
    replace f1 := Lib.hid f1
    go_wp2_with fail
    go_ret2
    exact ⟨.inr ⟨hV.out, rfl⟩, f1.out⟩
  · have hok : okAll l ∧ l.length ≤ 100 := by have := hV; unfold valS at this; exact of_decide_eq_true this
    obtain ⟨hok, hle⟩ := hok
    have hbd := szS_bound hok
    have hends := okAll_ends (okAll_nf hok).1 (okAll_nf hok).2
    obtain ⟨o, cap, rfl, hl⟩ := h
    obtain ⟨N, hN⟩ : ∃ N, l.length = N := ⟨_, rfl⟩
    rw [hN] at hle ⊢ V1
    replace hl := Lib.hid hl; replace V1 := Lib.hid V1; replace hV := Lib.hid hV; replace hok := Lib.hid hok; replace hbd := Lib.hid hbd; replace hends := Lib.hid hends; replace hN := Lib.hid hN
    go_enter Try.func13, Try.ntmps13
    go_wp2_with fail
    refine (V1.out).mono ?_
    rintro e w1 ⟨rfl, f1⟩
    replace f1 := Lib.hid f1
    go_wp2_with fail
    go_loopg [4, 12] (N + 1) (fun k v4 v12 wr => ∃ i : Nat, i ≤ N ∧ k + i = N + 1 ∧ v12 = .int .i64 i ∧ v4 = .int .i64 (szS (l.take i)) ∧ Fr [] w wr)
    case atStart => exact ⟨0, by omega, by omega, rfl, rfl, f1.out⟩
    case round =>
      obtain ⟨i, hi, hk, rfl, rfl, hF⟩ := hrel
      obtain ⟨wi, rfl⟩ : ∃ x : World, x = wr := ⟨_, rfl⟩
      by_cases hlt : i < N
      · have hltI : (i : Int) < N := by omega
        have hil : i < l.length := by have := hN.out; omega
        obtain ⟨B, off, rfl, hB, a1, a2⟩ := hl.out i hil
        have x1 := hF.cell (p := ⟨B, off + i * 2, none⟩) hB (by simp)
        have x2 := hF.cell (p := ⟨B, off + i * 2 + 1, none⟩) hB (by simp)
        rw [a1] at x1
        rw [a2] at x2
        obtain ⟨⟨p1, p2⟩, hp⟩ : ∃ x, l[i] = x := ⟨_, rfl⟩
        have hst := szS_take l i hil p1 p2 hp
        have he := hends.out _ (List.getElem_mem hil)
        rw [hp] at x1 x2 he
        dsimp only at x1 x2 he
        obtain ⟨he1, he2, he3⟩ := he
        clear a1 a2
        have hb1 := hbd.out i (by omega)
        obtain ⟨s, hs⟩ : ∃ s, szS (l.take i) = s := ⟨_, rfl⟩
        rw [hs] at hst hb1 ⊢
        obtain ⟨hs1, hs2⟩ := hb1
        have hs3 : s ≤ 300000000000000000 := by omega
        clear hs2
        obtain ⟨w2, hw2⟩ : ∃ x, wi.alloc (.cells #[.int .i64 p1, .int .i64 p2] 51) = x := ⟨_, rfl⟩
        have P2 := Pt.newA wi 51 #[.int .i64 p1, .int .i64 p2]
        rw [hw2] at P2
        have F2 : Fr [] wi w2 := by rw [← hw2]; exact (Fr.refl [] wi).alloc _
        obtain ⟨b2, hb2⟩ : ∃ x, wi.heap.size = x := ⟨_, rfl⟩
        rw [hb2] at P2
        have k2 := P2.cell
        have G2 := hF.trans F2
        replace hF := Lib.hid hF; replace hst := Lib.hid hst; replace hs := Lib.hid hs; replace P2 := Lib.hid P2; replace F2 := Lib.hid F2; replace G2 := Lib.hid G2; replace hp := Lib.hid hp
        go_wp2_with fail
        go_roundg (gk - 1)
        case measure => omega
        case rel => exact ⟨i + 1, by omega, by omega, by go_num, by rw [hst.out], G2.out⟩
      · obtain rfl : i = N := by omega
        have hltI : ¬ (i : Int) < (i : Int) := by omega
        have htk : l.take i = l := List.take_of_length_le (by have := hN.out; omega)
        rw [htk]
        replace hF := Lib.hid hF; replace htk := Lib.hid htk
        go_wp2_with fail
        go_ret2
        exact ⟨.inl ⟨hV.out, rfl⟩, hF.out⟩
end Go.Proofs.Ytehmfnpiidcbpaa
