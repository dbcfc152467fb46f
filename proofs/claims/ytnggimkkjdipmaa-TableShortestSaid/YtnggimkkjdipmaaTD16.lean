import Derived.Test.YtnggimkkjdipmaaTD4
import Derived.Test.YtnggimkkjdipmaaTD15
namespace Go.Proofs.Ytnggimkkjdipmaa
open Go.RowKit
set_option linter.unusedVariables false
set_option linter.unusedSimpArgs false
set_option maxHeartbeats 16000000
set_option maxRecDepth 100000
theorem NIn.butLast {w : World} {o : Option Addr} {m c : Nat} {l : List Int} (h : NIn w (.slice o (m + 1) c) l) : NIn w (.slice o m c) l.dropLast := by
  obtain ⟨o', cap, e, h2⟩ := h
  simp at e
  obtain ⟨rfl, e2, rfl⟩ := e
  refine ⟨o, c, by rw [List.length_dropLast]; congr 1; omega, fun i hi => ?_⟩
  rw [List.length_dropLast] at hi
  obtain ⟨b, off, g1, g2, g3⟩ := h2 i (by omega)
  exact ⟨b, off, g1, g2, by rw [g3, List.getElem_dropLast]⟩
theorem tshortest_any (A B : Tb) (ra rb : Value) (a b : Int) (w : World) (hRA : RIn w ra A.rows) (hRB : RIn w rb B.rows) :
    Calls Try.prog 7 #[.agg #[.int .i64 A.st, .int .i64 A.ev, .int .i64 A.sr, ra, .int .i64 B.st, .int .i64 B.ev, .int .i64 B.sr, rb, .int .i64 a, .int .i64 b]] w fun e w' => e = .returned (.bool true) ∧ Fr [] w w' := by
  have hlaw := differF_law A a B b
  obtain ⟨⟨Y1, Y2⟩, hY⟩ : ∃ x, differF A a B b = x := ⟨_, rfl⟩
  rw [hY] at hlaw
  dsimp only at hlaw
  have DS : ∀ W, Fr [] w W → Calls Try.prog 27 #[.agg #[.int .i64 A.st, .int .i64 A.ev, .int .i64 A.sr, ra], .int .i64 a, .agg #[.int .i64 B.st, .int .i64 B.ev, .int .i64 B.sr, rb], .int .i64 b] W fun e w' => ∃ v, e = .returned (.tuple #[v, .int .i64 Y2]) ∧ NInC w' v Y1 ∧ Fr [] W w' := fun W f => by
    have := Differ_any A B _ _ a b W ⟨ra, rfl, hRA.fr f⟩ ⟨rb, rfl, hRB.fr f⟩
    rw [hY] at this
    exact this
  have RA : ∀ W wv l, Fr [] w W → NIn W wv l → Calls Try.prog 16 #[.agg #[.int .i64 A.st, .int .i64 A.ev, .int .i64 A.sr, ra], .int .i64 a, wv] W fun e w' => ∃ v, e = .returned (.tuple #[v, .int .i64 (A.Run a l).2.1, .int .i64 (A.Run a l).2.2]) ∧ NIn w' v (A.Run a l).1 ∧ Fr [] W w' := fun W wv l f hn => Run_any A _ a wv l W ⟨ra, rfl, hRA.fr f⟩ hn
  have RB : ∀ W wv l, Fr [] w W → NIn W wv l → Calls Try.prog 16 #[.agg #[.int .i64 B.st, .int .i64 B.ev, .int .i64 B.sr, rb], .int .i64 b, wv] W fun e w' => ∃ v, e = .returned (.tuple #[v, .int .i64 (B.Run b l).2.1, .int .i64 (B.Run b l).2.2]) ∧ NIn w' v (B.Run b l).1 ∧ Fr [] W w' := fun W wv l f hn => Run_any B _ b wv l W ⟨rb, rfl, hRB.fr f⟩ hn
  replace hY := Lib.hid hY
  obtain ⟨w1, hw1⟩ : ∃ x, w.alloc (.cells #[.int .i64 A.st, .int .i64 A.ev, .int .i64 A.sr, ra, .int .i64 B.st, .int .i64 B.ev, .int .i64 B.sr, rb, .int .i64 a, .int .i64 b] 45) = x := ⟨_, rfl⟩
  have P1 := Pt.newA w 45 #[.int .i64 A.st, .int .i64 A.ev, .int .i64 A.sr, ra, .int .i64 B.st, .int .i64 B.ev, .int .i64 B.sr, rb, .int .i64 a, .int .i64 b]
  rw [hw1] at P1
  have F1 : Fr [] w w1 := by rw [← hw1]; exact (Fr.refl [] w).alloc _
  obtain ⟨b1, hb1⟩ : ∃ x, w.heap.size = x := ⟨_, rfl⟩
  rw [hb1] at P1
  have k1 := P1.cell
  replace P1 := Lib.hid P1; replace F1 := Lib.hid F1; replace DS := Lib.hid DS; replace RA := Lib.hid RA; replace RB := Lib.hid RB; replace hlaw := Lib.hid hlaw
  clear hRA hRB
  go_enter Try.func7, Try.ntmps7
  go_wp2_with fail
  refine (DS.out _ F1.out).mono ?_
  rintro e w2 ⟨v2, rfl, n2, f2⟩
  have F2 := Lib.hid (F1.out.trans f2)
  have P2 := Lib.hid (f2.pt P1.out (by simp))
  have k2 := P2.out.cell
  obtain ⟨o2, c2, rfl, hc2, hn2⟩ := n2
  replace f2 := Lib.hid f2; replace hn2 := Lib.hid hn2
  clear k1 hw1
  cases hq : Y2 == 0
  · as_aux_lemma =>
    have hq2 : (Y2 != 0) = true := by simp [bne, hq]
    have SN := Lib.hid (sane_any w2)
    go_wp2_with fail
    refine SN.out.mono ?_
    rintro e w9 ⟨rfl, f9⟩
    have F9 := Lib.hid (F2.out.trans f9)
    go_wp2_with fail
    go_ret
    exact ⟨rfl, F9.out⟩
  · obtain rfl : Y2 = 0 := by simpa using hq
    obtain ⟨g1, g2, g3, g4, g5, g6, g7, g8, g9⟩ := hlaw.out rfl
    obtain ⟨m, hm⟩ : ∃ m, Y1.length = m + 1 := ⟨Y1.length - 1, by have : Y1.length ≠ 0 := fun h => g1 (List.length_eq_zero_iff.mp h); omega⟩
    rw [hm] at hc2 hn2 g9 g2
    have hm60 : m ≤ 60 := by omega
    have hmc : (m : Int) ≤ (c2 : Int) := by omega
    have hm0 : (0 : Int) ≤ (m : Int) := by omega
    have hm1 : (((m : Int) + 1) == 0) = false := by simp; omega
    rw [hm]
    obtain ⟨⟨OA, pA, zA⟩, hRa⟩ : ∃ x, A.Run a Y1 = x := ⟨_, rfl⟩
    obtain ⟨⟨OB, pB, zB⟩, hRb⟩ : ∃ x, B.Run b Y1 = x := ⟨_, rfl⟩
    obtain ⟨⟨XA, qA, yA⟩, hRc⟩ : ∃ x, A.Run a Y1.dropLast = x := ⟨_, rfl⟩
    obtain ⟨⟨XB, qB, yB⟩, hRd⟩ : ∃ x, B.Run b Y1.dropLast = x := ⟨_, rfl⟩
    rw [hRa] at g3 g7
    rw [hRb] at g4 g7
    rw [hRc] at g5 g8 g9
    rw [hRd] at g6 g8
    dsimp only at g3 g4 g5 g6 g7 g8 g9
    subst g3 g4 g5 g6 g8
    have hXl : XA.length = m := by omega
    have hOl : OA.length ≤ 9223372036854775807 := by
      have h1 := congrArg (fun x => x.1.length) hRa
      dsimp only at h1
      rw [← h1]
      unfold Tb.Run
      split
      · have := A.run_len Y1 a; dsimp only; omega
      · simp
    clear hq g9
    replace hRa := Lib.hid hRa; replace hRb := Lib.hid hRb; replace hRc := Lib.hid hRc; replace hRd := Lib.hid hRd; replace hm := Lib.hid hm; replace g1 := Lib.hid g1; replace g7 := Lib.hid g7; replace hXl := Lib.hid hXl; replace hOl := Lib.hid hOl
    have C1 := RA.out w2 _ Y1 F2.out hn2.out
    rw [hRa.out] at C1
    replace C1 := Lib.hid C1
    go_wp2_with fail
    refine C1.out.mono ?_
    rintro e w3 ⟨v3, rfl, n3, f3⟩
    have F3 := Lib.hid (F2.out.trans f3)
    have P3 := Lib.hid (f3.pt P2.out (by simp))
    have k3 := P3.out.cell
    have hn3 := Lib.hid (hn2.out.fr f3)
    have C2 := RB.out w3 _ Y1 F3.out hn3.out
    rw [hRb.out] at C2
    replace C2 := Lib.hid C2; replace n3 := Lib.hid n3; replace f3 := Lib.hid f3
    clear k2
    go_wp2_with fail
    refine C2.out.mono ?_
    rintro e w4 ⟨v4, rfl, n4, f4⟩
    have F4 := Lib.hid (F3.out.trans f4)
    have P4 := Lib.hid (f4.pt P3.out (by simp))
    have hn4 := Lib.hid (hn3.out.fr f4)
    have n34 := Lib.hid (n3.out.fr f4)
    replace n4 := Lib.hid n4; replace f4 := Lib.hid f4
    clear k3
    have SS4 : ∀ W, Fr [] w4 W → W.cell? ⟨b1, 0, none⟩ = some (.int .i64 A.st) ∧ W.cell? ⟨b1, 1, none⟩ = some (.int .i64 A.ev) ∧ W.cell? ⟨b1, 2, none⟩ = some (.int .i64 A.sr) ∧ W.cell? ⟨b1, 3, none⟩ = some ra ∧ W.cell? ⟨b1, 4, none⟩ = some (.int .i64 B.st) ∧ W.cell? ⟨b1, 5, none⟩ = some (.int .i64 B.ev) ∧ W.cell? ⟨b1, 6, none⟩ = some (.int .i64 B.sr) ∧ W.cell? ⟨b1, 7, none⟩ = some rb ∧ W.cell? ⟨b1, 8, none⟩ = some (.int .i64 a) ∧ W.cell? ⟨b1, 9, none⟩ = some (.int .i64 b) := fun W f => by
      have p := (f.pt P4.out (by simp)).cell
      exact ⟨p 0, p 1, p 2, p 3, p 4, p 5, p 6, p 7, p 8, p 9⟩
    have C3 : ∀ W, Fr [] w4 W → Calls Try.prog 16 #[.agg #[.int .i64 A.st, .int .i64 A.ev, .int .i64 A.sr, ra], .int .i64 a, .slice o2 m c2] W fun e w' => ∃ v, e = .returned (.tuple #[v, .int .i64 qA, .int .i64 0]) ∧ NIn w' v XA ∧ Fr [] w4 w' := fun W f => by
      have := RA.out W (.slice o2 m c2) Y1.dropLast (F4.out.trans f) ((hn4.out.fr f).butLast)
      rw [hRc.out] at this
      exact this.mono (fun e w' ⟨v, h1, h2, h3⟩ => ⟨v, h1, h2, f.trans h3⟩)
    have hwr : IntKind.i64.wrap ((m : Int) + 1 - 1) = (m : Int) := by rw [show (m : Int) + 1 - 1 = (m : Int) by omega]; exact IntWalk.i64_in _ (by omega)
    have hwr2 : IntKind.i64.wrap (m : Int) = (m : Int) := IntWalk.i64_in _ (by omega)
    have hwr3 : IntKind.i64.wrap (((m + 1 : Nat) : Int) - 1) = (m : Int) := by rw [show ((m + 1 : Nat) : Int) - 1 = (m : Int) by omega]; exact IntWalk.i64_in _ (by omega)
    have hmt : ((m : Int)).toNat = m := by omega
    have hmcN : m ≤ c2 := by omega
    obtain ⟨s0, s1, s2, s3, s4, s5, s6, s7, s8, s9⟩ := SS4 w4 (Fr.refl _ _)
    replace SS4 := Lib.hid SS4; replace C3 := Lib.hid C3
    go_upto_region 6 with fail
    clear s0 s1 s2 s3 s4 s5 s6 s7 s8 s9
    go_region_held3 (fun W => W.cell? ⟨b1, 0, none⟩ = some (.int .i64 A.st) ∧ W.cell? ⟨b1, 1, none⟩ = some (.int .i64 A.ev) ∧ W.cell? ⟨b1, 2, none⟩ = some (.int .i64 A.sr) ∧ W.cell? ⟨b1, 3, none⟩ = some ra ∧ W.cell? ⟨b1, 4, none⟩ = some (.int .i64 B.st) ∧ W.cell? ⟨b1, 5, none⟩ = some (.int .i64 B.ev) ∧ W.cell? ⟨b1, 6, none⟩ = some (.int .i64 B.sr) ∧ W.cell? ⟨b1, 7, none⟩ = some rb ∧ W.cell? ⟨b1, 8, none⟩ = some (.int .i64 a) ∧ W.cell? ⟨b1, 9, none⟩ = some (.int .i64 b))
      (first | exact SS4.out _ (Fr.refl _ _).drew | exact SS4.out _ f5.out)
      ((first
        | (go_at_call 16; with_reducible refine Calls.mono (C3.out _ ?hfr) ?_; (case hfr => exact (Fr.refl _ _).drew); rintro e w5 ⟨v5, rfl, n5, f5⟩; replace n5 := Lib.hid n5; replace f5 := Lib.hid f5)))
    have F5 := Lib.hid (F4.out.trans f5.out)
    have P5 := Lib.hid (f5.out.pt P4.out (by simp))
    have hn5 := Lib.hid (hn4.out.fr f5.out)
    have SS5 : ∀ W, Fr [] w5 W → W.cell? ⟨b1, 0, none⟩ = some (.int .i64 A.st) ∧ W.cell? ⟨b1, 1, none⟩ = some (.int .i64 A.ev) ∧ W.cell? ⟨b1, 2, none⟩ = some (.int .i64 A.sr) ∧ W.cell? ⟨b1, 3, none⟩ = some ra ∧ W.cell? ⟨b1, 4, none⟩ = some (.int .i64 B.st) ∧ W.cell? ⟨b1, 5, none⟩ = some (.int .i64 B.ev) ∧ W.cell? ⟨b1, 6, none⟩ = some (.int .i64 B.sr) ∧ W.cell? ⟨b1, 7, none⟩ = some rb ∧ W.cell? ⟨b1, 8, none⟩ = some (.int .i64 a) ∧ W.cell? ⟨b1, 9, none⟩ = some (.int .i64 b) := fun W f => by
      have p := (f.pt P5.out (by simp)).cell
      exact ⟨p 0, p 1, p 2, p 3, p 4, p 5, p 6, p 7, p 8, p 9⟩
    have C4 : ∀ W, Fr [] w5 W → Calls Try.prog 16 #[.agg #[.int .i64 B.st, .int .i64 B.ev, .int .i64 B.sr, rb], .int .i64 b, .slice o2 m c2] W fun e w' => ∃ v, e = .returned (.tuple #[v, .int .i64 qB, .int .i64 0]) ∧ NIn w' v XA ∧ Fr [] w5 w' := fun W f => by
      have := RB.out W (.slice o2 m c2) Y1.dropLast (F5.out.trans f) ((hn5.out.fr f).butLast)
      rw [hRd.out] at this
      exact this.mono (fun e w' ⟨v, h1, h2, h3⟩ => ⟨v, h1, h2, f.trans h3⟩)
    obtain ⟨s0, s1, s2, s3, s4, s5, s6, s7, s8, s9⟩ := SS5 w5 (Fr.refl _ _)
    replace SS5 := Lib.hid SS5; replace C4 := Lib.hid C4
    go_upto_region 7 with fail
    clear s0 s1 s2 s3 s4 s5 s6 s7 s8 s9
    go_region_held3 (fun W => W.cell? ⟨b1, 0, none⟩ = some (.int .i64 A.st) ∧ W.cell? ⟨b1, 1, none⟩ = some (.int .i64 A.ev) ∧ W.cell? ⟨b1, 2, none⟩ = some (.int .i64 A.sr) ∧ W.cell? ⟨b1, 3, none⟩ = some ra ∧ W.cell? ⟨b1, 4, none⟩ = some (.int .i64 B.st) ∧ W.cell? ⟨b1, 5, none⟩ = some (.int .i64 B.ev) ∧ W.cell? ⟨b1, 6, none⟩ = some (.int .i64 B.sr) ∧ W.cell? ⟨b1, 7, none⟩ = some rb ∧ W.cell? ⟨b1, 8, none⟩ = some (.int .i64 a) ∧ W.cell? ⟨b1, 9, none⟩ = some (.int .i64 b))
      (first | exact SS5.out _ (Fr.refl _ _).drew | exact SS5.out _ f6.out)
      ((first
        | (go_at_call 16; with_reducible refine Calls.mono (C4.out _ ?hfr) ?_; (case hfr => exact (Fr.refl _ _).drew); rintro e w6 ⟨v6, rfl, n6, f6⟩; replace n6 := Lib.hid n6; replace f6 := Lib.hid f6)))
    have F6 := Lib.hid (F5.out.trans f6.out)
    have I1 := ints_any v3 v4 OA OB w6 ((n34.out.fr f5.out).fr f6.out) ((n4.out.fr f5.out).fr f6.out) hOl.out
    rw [decide_eq_false g7.out] at I1
    replace I1 := Lib.hid I1
    obtain ⟨o3, c3, hv3⟩ : ∃ o c, v3 = .slice o OA.length c := by obtain ⟨o, c, e, _⟩ := n34.out; exact ⟨o, c, e⟩
    obtain ⟨o4, c4, hv4⟩ : ∃ o c, v4 = .slice o OB.length c := by obtain ⟨o, c, e, _⟩ := n4.out; exact ⟨o, c, e⟩
    obtain ⟨o5, c5, hv5⟩ : ∃ o c, v5 = .slice o m c := by obtain ⟨o, c, e, _⟩ := n5.out; rw [hXl.out] at e; exact ⟨o, c, e⟩
    obtain ⟨o6, c6, hv6⟩ : ∃ o c, v6 = .slice o m c := by obtain ⟨o, c, e, _⟩ := n6.out; rw [hXl.out] at e; exact ⟨o, c, e⟩
    subst hv3 hv4 hv5 hv6
    go_wp2_with fail
    refine I1.out.mono ?_
    rintro e w7 ⟨rfl, f7⟩
    have I2 := ints_any _ _ XA XA w7 ((n5.out.fr f6.out).fr f7) (n6.out.fr f7) (by have := hXl.out; omega)
    rw [decide_eq_true rfl] at I2
    have F7 := Lib.hid (F6.out.trans f7)
    replace I2 := Lib.hid I2; replace f7 := Lib.hid f7
    go_wp2_with fail
    refine I2.out.mono ?_
    rintro e w8 ⟨rfl, f8⟩
    have F8 := Lib.hid (F7.out.trans f8)
    have SN := Lib.hid (sane_any w8)
    have heq : ((m : Int) == (m : Int) + 1 - 1) = true := by simp
    have heq2 : ((m : Int) == (m : Int)) = true := by simp
    replace f8 := Lib.hid f8
    go_wp2_with fail
    refine SN.out.mono ?_
    rintro e w9 ⟨rfl, f9⟩
    have F9 := Lib.hid (F8.out.trans f9)
    go_wp2_with fail
    go_ret
    exact ⟨rfl, F9.out⟩
end Go.Proofs.Ytnggimkkjdipmaa
