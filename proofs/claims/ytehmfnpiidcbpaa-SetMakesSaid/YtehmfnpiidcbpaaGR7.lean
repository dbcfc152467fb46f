import Derived.Test.YtehmfnpiidcbpaaGR6
namespace Go.Proofs.Ytehmfnpiidcbpaa
open Go.RowKit
set_option linter.unusedVariables false
set_option linter.unusedSimpArgs false
set_option maxHeartbeats 16000000
set_option maxRecDepth 100000
/-! ### The reference's operations on two sets -/
theorem two_any (op : Int) (m : Int → Prop) (va vb : Value) (a b : List (Int × Int)) (w : World) (ha : PIn w va a) (hb : PIn w vb b) (hna : a.length ≤ 9223372036854775807) (hnb : b.length ≤ 9223372036854775807)
    (hop : op = 1 ∨ op = 2 ∨ op = 3) (hm : ∀ x, (twoN op a b).hold x = true ↔ m x) :
    Calls Try.prog 39 #[.int .i64 op, va, vb] w (OpR m a b w) := by
  have V1 := rvalid_any va a w ha hna
  obtain ⟨A, hA⟩ : ∃ A, valS a = A := ⟨_, rfl⟩
  obtain ⟨B, hB⟩ : ∃ B, valS b = B := ⟨_, rfl⟩
  rw [hA] at V1
  have hno : (A && B) = false → OpP a b m 1 [] := fun h => .inl ⟨by unfold okAB; rw [hA, hB]; exact h, rfl, rfl⟩
  have hyes : (A && B) = true → okAB a b = true := fun h => by unfold okAB; rw [hA, hB]; exact h
  cases A
  · have hn := hno rfl
    replace ha := Lib.hid ha; replace hb := Lib.hid hb; replace V1 := Lib.hid V1; replace hA := Lib.hid hA; replace hB := Lib.hid hB; replace hno := Lib.hid hno; replace hyes := Lib.hid hyes; replace hn := Lib.hid hn; replace hm := Lib.hid hm
    go_enter Try.func39, Try.ntmps39
    go_wp2_with fail
    refine (V1.out).mono ?_
    rintro e w1 ⟨rfl, f1⟩
    replace f1 := Lib.hid f1
    go_wp2_with fail
    go_ret2
    exact ⟨_, [], 1, rfl, PIn.nil _, hn.out, f1.out⟩
  · cases B
    · have hn := hno rfl
      replace ha := Lib.hid ha; replace hb := Lib.hid hb; replace V1 := Lib.hid V1; replace hA := Lib.hid hA; replace hB := Lib.hid hB; replace hno := Lib.hid hno; replace hyes := Lib.hid hyes; replace hn := Lib.hid hn; replace hm := Lib.hid hm
      go_enter Try.func39, Try.ntmps39
      go_wp2_with fail
      refine (V1.out).mono ?_
      rintro e w1 ⟨rfl, f1⟩
      have V2 := rvalid_any vb b w1 (hb.out.fr f1) hnb
      rw [hB.out] at V2
      replace f1 := Lib.hid f1; replace V2 := Lib.hid V2
      go_wp2_with fail
      refine (V2.out).mono ?_
      rintro e w2 ⟨rfl, f2⟩
      have F2 := f1.out.trans f2
      replace f2 := Lib.hid f2; replace F2 := Lib.hid F2
      go_wp2_with fail
      go_ret2
      exact ⟨_, [], 1, rfl, PIn.nil _, hn.out, F2.out⟩
    · have hk := hyes rfl
      obtain ⟨⟨a1, a2, a3⟩, b1, b2, b3⟩ := okAB_iff.1 hk
      have hwk : (twoN op a b).wk = true := twoN_wk hop (okAll_ends a1 a2) (okAll_ends b1 b2)
      have hnd := twoN_nodes op a b
      replace ha := Lib.hid ha; replace hb := Lib.hid hb; replace V1 := Lib.hid V1; replace hA := Lib.hid hA; replace hB := Lib.hid hB; replace hno := Lib.hid hno; replace hyes := Lib.hid hyes; replace hk := Lib.hid hk; replace hm := Lib.hid hm; replace a1 := Lib.hid a1; replace a2 := Lib.hid a2; replace b1 := Lib.hid b1; replace b2 := Lib.hid b2; replace hwk := Lib.hid hwk; replace hnd := Lib.hid hnd
      clear hop
      go_enter Try.func39, Try.ntmps39
      go_wp2_with fail
      refine (V1.out).mono ?_
      rintro e w1 ⟨rfl, f1⟩
      have V2 := rvalid_any vb b w1 (hb.out.fr f1) hnb
      rw [hB.out] at V2
      replace f1 := Lib.hid f1; replace V2 := Lib.hid V2
      go_wp2_with fail
      refine (V2.out).mono ?_
      rintro e w2 ⟨rfl, f2⟩
      have F2 := f1.out.trans f2
      have A1 := as_any va a w2 (ha.out.fr F2) (by omega)
      replace f2 := Lib.hid f2; replace F2 := Lib.hid F2; replace A1 := Lib.hid A1
      go_wp2_with fail
      refine (A1.out).mono ?_
      rintro e w3 ⟨s3, rfl, n3, f3⟩
      have F3 := F2.out.trans f3
      have A2 := as_any vb b w3 (hb.out.fr F3) (by omega)
      obtain ⟨os3, ls3, cs3, rfl⟩ := n3.sl
      replace n3 := Lib.hid n3; replace f3 := Lib.hid f3; replace F3 := Lib.hid F3; replace A2 := Lib.hid A2
      go_wp2_with fail
      refine (A2.out).mono ?_
      rintro e w4 ⟨s4, rfl, n4, f4⟩
      have F4 := F3.out.trans f4
      have n3' := n3.out.go f4
      obtain ⟨os4, ls4, cs4, rfl⟩ := n4.sl
      obtain ⟨w5, hw5⟩ : ∃ x, w4.alloc (.cells #[.int .i64 1, .int .i64 0, .int .i64 0, .slice os3 ls3 cs3, .int .i64 1, .int .i64 0, .int .i64 0, .slice os4 ls4 cs4] 40) = x := ⟨_, rfl⟩
      have P5 := Pt.newA w4 40 #[.int .i64 1, .int .i64 0, .int .i64 0, .slice os3 ls3 cs3, .int .i64 1, .int .i64 0, .int .i64 0, .slice os4 ls4 cs4]
      rw [hw5] at P5
      have F5 : Fr [] w4 w5 := by rw [← hw5]; exact (Fr.refl [] w4).alloc _
      obtain ⟨q5, hq5⟩ : ∃ x, w4.heap.size = x := ⟨_, rfl⟩
      rw [hq5] at P5
      have NT : NI w5 (twoN op a b) (.agg #[.int .i64 op, .int .i64 0, .int .i64 0, .slice (some ⟨q5, 0, none⟩) 2 2]) := by
        refine NIn.mk op 0 0 [asN a, asN b] _ 2 (fun i => if i = 0 then .slice os3 ls3 cs3 else .slice os4 ls4 cs4) (fun j hj => ⟨q5, 0, rfl, P5.lt, trivial, ?_⟩) (fun j hj => ?_)
        · rw [P5.cell, P5.cell, P5.cell, P5.cell]
          match j, hj with
          | 0, _ => exact ⟨rfl, rfl, rfl, rfl⟩
          | 1, _ => exact ⟨rfl, rfl, rfl, rfl⟩
        · match j, hj with
          | 0, _ => exact n3'.go F5
          | 1, _ => exact n4.go F5
      have ST := set_any (twoN op a b) w5 _ (by rw [hnd.out]; omega) hwk.out NT
      replace n4 := Lib.hid n4; replace f4 := Lib.hid f4; replace F4 := Lib.hid F4; replace n3' := Lib.hid n3'; replace P5 := Lib.hid P5; replace F5 := Lib.hid F5; replace NT := Lib.hid NT; replace ST := Lib.hid ST
      go_wp2_with fail
      refine (ST.out).mono ?_
      rintro e w6 ⟨L, v6, rfl, m1, m2, m3, m4, f6⟩
      have LR := toldR hk.out m1 (fun x => (m2 x).trans (hm.out x)) m4 ((F4.out.trans F5.out).trans f6)
      replace m1 := Lib.hid m1; replace m2 := Lib.hid m2; replace m3 := Lib.hid m3; replace m4 := Lib.hid m4; replace f6 := Lib.hid f6; replace LR := Lib.hid LR
      go_wp2_with fail
      refine (LR.out).mono ?_
      rintro e w7 ⟨v7, l7, c7, rfl, p7, o7, f7⟩
      replace p7 := Lib.hid p7; replace o7 := Lib.hid o7; replace f7 := Lib.hid f7
      go_wp2_with fail
      go_ret2
      exact ⟨_, _, _, rfl, p7.out, o7.out, f7.out⟩
theorem runion_any (va vb : Value) (a b : List (Int × Int)) (w : World) (ha : PIn w va a) (hb : PIn w vb b) (hna : a.length ≤ 9223372036854775807) (hnb : b.length ≤ 9223372036854775807) :
    Calls Try.prog 17 #[va, vb] w (OpR (unM a b) a b w) := by
  have C := two_any 1 (unM a b) va vb a b w ha hb hna hnb (by simp) (two_un a b)
  replace ha := Lib.hid ha; replace hb := Lib.hid hb; replace C := Lib.hid C
  go_enter Try.func17, Try.ntmps17
  go_wp2_with fail
  refine (C.out).mono ?_
  rintro e w4 ⟨v4, l4, c4, rfl, p4, o4, f4⟩
  replace p4 := Lib.hid p4; replace o4 := Lib.hid o4; replace f4 := Lib.hid f4
  go_wp2_with fail
  go_ret2
  exact ⟨_, _, _, rfl, p4.out, o4.out, f4.out⟩
theorem rmeet_any (va vb : Value) (a b : List (Int × Int)) (w : World) (ha : PIn w va a) (hb : PIn w vb b) (hna : a.length ≤ 9223372036854775807) (hnb : b.length ≤ 9223372036854775807) :
    Calls Try.prog 18 #[va, vb] w (OpR (meM a b) a b w) := by
  have C := two_any 2 (meM a b) va vb a b w ha hb hna hnb (by simp) (two_me a b)
  replace ha := Lib.hid ha; replace hb := Lib.hid hb; replace C := Lib.hid C
  go_enter Try.func18, Try.ntmps18
  go_wp2_with fail
  refine (C.out).mono ?_
  rintro e w4 ⟨v4, l4, c4, rfl, p4, o4, f4⟩
  replace p4 := Lib.hid p4; replace o4 := Lib.hid o4; replace f4 := Lib.hid f4
  go_wp2_with fail
  go_ret2
  exact ⟨_, _, _, rfl, p4.out, o4.out, f4.out⟩
theorem rexcept_any (va vb : Value) (a b : List (Int × Int)) (w : World) (ha : PIn w va a) (hb : PIn w vb b) (hna : a.length ≤ 9223372036854775807) (hnb : b.length ≤ 9223372036854775807) :
    Calls Try.prog 19 #[va, vb] w (OpR (exM a b) a b w) := by
  have C := two_any 3 (exM a b) va vb a b w ha hb hna hnb (by simp) (two_ex a b)
  replace ha := Lib.hid ha; replace hb := Lib.hid hb; replace C := Lib.hid C
  go_enter Try.func19, Try.ntmps19
  go_wp2_with fail
  refine (C.out).mono ?_
  rintro e w4 ⟨v4, l4, c4, rfl, p4, o4, f4⟩
  replace p4 := Lib.hid p4; replace o4 := Lib.hid o4; replace f4 := Lib.hid f4
  go_wp2_with fail
  go_ret2
  exact ⟨_, _, _, rfl, p4.out, o4.out, f4.out⟩
/-! ### Size, Hull, a copy -/
theorem rSize_any (v : Value) (l : List (Int × Int)) (w : World) (h : PIn w v l) (hn : l.length ≤ 9223372036854775807) :
    Calls Try.prog 20 #[v] w (SizeR l w) := by
  have V1 := rvalid_any v l w h hn
  obtain ⟨V, hV⟩ : ∃ V, valS l = V := ⟨_, rfl⟩
  rw [hV] at V1
  cases V
  · skip
    replace h := Lib.hid h; replace V1 := Lib.hid V1; replace hV := Lib.hid hV
    go_enter Try.func20, Try.ntmps20
    go_wp2_with fail
    refine (V1.out).mono ?_
    rintro e w1 ⟨rfl, f1⟩
    replace f1 := Lib.hid f1
    go_wp2_with fail
    go_ret2
    exact ⟨.inr ⟨hV.out, rfl⟩, f1.out⟩
  · have hok : okAll l ∧ l.length ≤ 100 := by have := hV; unfold valS at this; exact of_decide_eq_true this
    obtain ⟨hok, hle⟩ := hok
    have hbd := szS_bound hok
    have hends := okAll_ends (okAll_nf hok).1 (okAll_nf hok).2
    obtain ⟨o, cap, rfl, hl⟩ := h
    obtain ⟨N, hN⟩ : ∃ N, l.length = N := ⟨_, rfl⟩
    rw [hN] at hle ⊢ V1
    replace hl := Lib.hid hl; replace V1 := Lib.hid V1; replace hV := Lib.hid hV; replace hok := Lib.hid hok; replace hbd := Lib.hid hbd; replace hends := Lib.hid hends; replace hN := Lib.hid hN
    go_enter Try.func20, Try.ntmps20
    go_wp2_with fail
    refine (V1.out).mono ?_
    rintro e w1 ⟨rfl, f1⟩
    replace f1 := Lib.hid f1
    go_wp2_with fail
    go_loopg [4, 5] (N + 1) (fun k v4 v12 wr => ∃ i : Nat, i ≤ N ∧ k + i = N + 1 ∧ v12 = .int .i64 i ∧ v4 = .int .i64 (szS (l.take i)) ∧ Fr [] w wr)
    case atStart => exact ⟨0, by omega, by omega, rfl, rfl, f1.out⟩
    case round =>
      obtain ⟨i, hi, hk, rfl, rfl, hF⟩ := hrel
      obtain ⟨wi, rfl⟩ : ∃ x : World, x = wr := ⟨_, rfl⟩
      by_cases hlt : i < N
      · have hltI : (i : Int) < N := by omega
        have hil : i < l.length := by have := hN.out; omega
        obtain ⟨B, off, rfl, hB, a1, a2⟩ := hl.out i hil
        have x1 := hF.cell (p := ⟨B, off + i * 2, none⟩) hB (by simp)
        have x2 := hF.cell (p := ⟨B, off + i * 2 + 1, none⟩) hB (by simp)
        rw [a1] at x1
        rw [a2] at x2
        obtain ⟨⟨p1, p2⟩, hp⟩ : ∃ x, l[i] = x := ⟨_, rfl⟩
        have hst := szS_take l i hil p1 p2 hp
        have he := hends.out _ (List.getElem_mem hil)
        rw [hp] at x1 x2 he
        dsimp only at x1 x2 he
        obtain ⟨he1, he2, he3⟩ := he
        clear a1 a2
        have hb1 := hbd.out i (by omega)
        obtain ⟨s, hs⟩ : ∃ s, szS (l.take i) = s := ⟨_, rfl⟩
        rw [hs] at hst hb1 ⊢
        obtain ⟨hs1, hs2⟩ := hb1
        have hs3 : s ≤ 300000000000000000 := by omega
        clear hs2
        have w1' : IntKind.i64.wrap (s + p2) = s + p2 := IntWalk.i64_in _ (by omega)
        have w2' : IntKind.i64.wrap (s + p2 - p1) = s + p2 - p1 := IntWalk.i64_in _ (by omega)
        have w3' : IntKind.i64.wrap (s + p2 - p1 + 1) = s + p2 - p1 + 1 := IntWalk.i64_in _ (by omega)
        replace hF := Lib.hid hF; replace hst := Lib.hid hst; replace hs := Lib.hid hs; replace hp := Lib.hid hp
        go_wp2_with fail
        go_quiet (fail)
        go_wp2_with fail
        go_roundg (gk - 1)
        case measure => omega
        case rel => exact ⟨i + 1, by omega, by omega, by go_num, by rw [hst.out]; congr 1; omega, hF.out.drewN _⟩
      · obtain rfl : i = N := by omega
        have hltI : ¬ (i : Int) < (i : Int) := by omega
        have htk : l.take i = l := List.take_of_length_le (by have := hN.out; omega)
        rw [htk]
        replace hF := Lib.hid hF; replace htk := Lib.hid htk
        go_wp2_with fail
        go_ret2
        exact ⟨.inl ⟨hV.out, rfl⟩, hF.out⟩
end Go.Proofs.Ytehmfnpiidcbpaa
