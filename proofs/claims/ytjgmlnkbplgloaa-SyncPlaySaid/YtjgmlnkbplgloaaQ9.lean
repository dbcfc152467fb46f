import Derived.Test.YtjgmlnkbplgloaaQ8
namespace Go.Proofs.Ytjgmlnkbplgloaa
open Go.RowKit
set_option linter.unusedVariables false
set_option linter.unusedSimpArgs false
set_option maxHeartbeats 16000000
set_option maxRecDepth 20000
theorem and_1 (k : Int) : bits .and .i64 k 1 = k % 2 := by
  have h : (k % 18446744073709551616).toNat &&& 1 = (k % 18446744073709551616).toNat % 2 := Nat.and_two_pow_sub_one_eq_mod _ 1
  unfold bits
  simp only [IntKind.bits]
  show IntKind.i64.wrap (((k % 18446744073709551616).toNat &&& 1 : Nat) : Int) = k % 2
  rw [h, IntKind.wrap_i64]
  omega
theorem uSides : Try.prog.underlying TSides = some (.array 2 25) := by kernel_rfl
theorem sides_0 (a b : Value) : ∀ w : World, (Instr.index TSides (.agg #[a, b]) (.int .i64 0)).run Try.prog w = .ok a w := fun w => by
  simp [Instr.index, run_underlying uSides, asIntOf, go_sem]
theorem sides_1 (a b : Value) : ∀ w : World, (Instr.index TSides (.agg #[a, b]) (.int .i64 1)).run Try.prog w = .ok b w := fun w => by
  simp [Instr.index, run_underlying uSides, asIntOf, go_sem]
theorem pnew_bad (f : Bool) (n : Int) (w : World) (h0 : n < 0 ∨ 999999 < n) :
    Calls Try.prog 9 #[.bool f, .int .i64 n] w fun e w' => e = .returned (.tuple #[.pointer none, .int .i64 1]) ∧ w = w' := by
  rcases (by omega : n < 0 ∨ (¬ n < 0 ∧ 999999 < n)) with h1 | ⟨h1, h2⟩
  all_goals
    go_enter Try.func9, Try.ntmps9
    go_wp2_with fail
    go_ret2
    exact ⟨rfl, rfl⟩
def PlayR (r : Int × Int × Bool × Int) (w : World) (e : Ending) (w' : World) : Prop := e = .returned (.tuple #[.agg #[.int .i64 r.1, .int .i64 r.2.1], .bool r.2.2.1, .int .i64 r.2.2.2]) ∧ Fr [] w w'
theorem playq_bad (N : Int) (dv : Value) (ds : List Int) (w : World) (hD : IntArg w dv ds) (hbad : N < 0 ∨ 999999 < N ∨ 300 < ds.length) :
    Calls Try.prog 21 #[.int .i64 N, dv] w (PlayR (0, 0, false, 1) w) := by
  obtain ⟨o, cap, rfl, _, hl⟩ := hD
  have P0 := Pt.newA w 23 #[.int .i64 0, .int .i64 0]
  obtain ⟨w0, hw0⟩ : ∃ x, w.alloc (.cells #[.int .i64 0, .int .i64 0] 23) = x := ⟨_, rfl⟩
  have f0 : Fr [] w w0 := by rw [← hw0]; exact (Fr.refl [] w).alloc _
  rw [hw0] at P0
  obtain ⟨br, hbr⟩ : ∃ x, w.heap.size = x := ⟨_, rfl⟩
  rw [hbr] at P0
  clear hl
  by_cases hs : N < 0 ∨ 999999 < N
  · have h1 := Lib.hid (pnew_bad true N w0 hs)
    clear hbad hs
    go_enter Try.func21, Try.ntmps21
    go_wp2_with fail
    refine h1.out.mono ?_
    rintro e w1 ⟨rfl, rfl⟩
    have c1 := P0.cell
    have z1 := P0.free
    go_wp2_with fail
    refine bodyPost_ret (v := .tuple #[.agg #[.int .i64 0, .int .i64 0], .bool false, .int .i64 1]) (by simp [results, Try.results21, go_sem, c1]) rfl ⟨rfl, ?_⟩
    exact f0.step (((Fr.refl [br] w0).setCell (by simp) _).setCell (by simp) _) (by simp; omega)
  · have hlen : (300 : Int) < ds.length := by omega
    have h1 := Lib.hid (new_ok [w0.heap.size] true N w0 (by omega) (by simp))
    clear hbad hs
    go_enter Try.func21, Try.ntmps21
    go_wp2_with fail
    refine h1.out.mono ?_
    rintro e w1 ⟨rfl, q1, f1⟩
    have P1 := f1.pt P0 (by simp)
    have c1 := P1.cell
    have z1 := P1.free
    clear q1
    go_wp2_with fail
    refine bodyPost_ret (v := .tuple #[.agg #[.int .i64 0, .int .i64 0], .bool false, .int .i64 1]) (by simp [results, Try.results21, go_sem, c1]) rfl ⟨rfl, ?_⟩
    exact (f0.trans f1).step (((Fr.refl [br] w1).setCell (by simp) _).setCell (by simp) _) (by simp; omega)
theorem act_pt (p : PQ) (d : Int) (j : Bool) (t : Int) (h : d = 0 ∨ d = 1 ∨ d = 2) : p.act d j t = p.meet j ptE := if_pos h
theorem act_maj (p : PQ) (j : Bool) (t : Int) : p.act 3 j t = p.meet j (majE t) := rfl
theorem act_cnf (p : PQ) (j : Bool) (t : Int) : p.act 4 j t = p.meet j (cnfE (p.sd j).a t) := rfl
theorem act_agn (p : PQ) (j : Bool) (t : Int) : p.act 5 j t = p.meet j (agnE (p.sd j).r t) := rfl
theorem act_ans (p : PQ) (j : Bool) (t : Int) : p.act 6 j t = if (p.sd j).kt = true then p.meet j (replyE (p.sd j).kn) else p := rfl
theorem act_pop (p : PQ) (d : Int) (j : Bool) (t : Int) (h : 7 ≤ d) : p.act d j t = p.pop j := by
  unfold PQ.act
  rw [if_neg (by omega), if_neg (by omega), if_neg (by omega), if_neg (by omega), if_neg (by omega)]
def qz (p : PQ) (i : Nat) : Bool := if i = 0 then decide ((p.q false).length = 0) && decide ((p.q true).length = 0) else if i = 1 then decide ((p.q false).length = 0) && decide ((p.q true).length = 0) && !(p.sd false).wt && !(p.sd false).kt else p.quiet
theorem playq_in (N : Int) (dv : Value) (ds : List Int) (w : World) (hD : IntArg w dv ds) (hN : 0 ≤ N ∧ N ≤ 999999) (hlen : ds.length ≤ 300) :
    Calls Try.prog 21 #[.int .i64 N, dv] w (PlayR (playQ N ds) w) := by
  have hPP : playQ N ds = (((runQ (startQ N) ds).sd false).m, ((runQ (startQ N) ds).sd true).m, (runQ (startQ N) ds).quiet, 0) := if_pos ⟨hN, hlen⟩
  rw [hPP]
  replace hPP := Lib.hid hPP
  obtain ⟨o, cap, rfl, hrange, hl⟩ := hD
  have hlenI : ¬ ((300 : Int) < ds.length) := by omega
  have P0 := Pt.newA w 23 #[.int .i64 0, .int .i64 0]
  obtain ⟨w0, hw0⟩ : ∃ x, w.alloc (.cells #[.int .i64 0, .int .i64 0] 23) = x := ⟨_, rfl⟩
  have f0 : Fr [] w w0 := by rw [← hw0]; exact (Fr.refl [] w).alloc _
  rw [hw0] at P0
  obtain ⟨br, hbr⟩ : ∃ x, w.heap.size = x := ⟨_, rfl⟩
  rw [hbr] at P0
  have h1 := Lib.hid (new_ok [w0.heap.size] true N w0 hN (by simp))
  have h2 := Lib.hid (fun (w : World) (hb : w0.heap.size ≤ w.heap.size) => new_ok [w0.heap.size, w.heap.size] false N w hN ⟨by simp, by simp; omega⟩)
  replace hl := Lib.hid hl
  replace hrange := Lib.hid hrange
  replace P0 := Lib.hid P0
  replace f0 := Lib.hid f0
  go_enter Try.func21, Try.ntmps21
  go_wp2_with fail
  refine h1.out.mono ?_
  rintro e w1 ⟨rfl, q1, f1⟩
  obtain ⟨b0, hb0⟩ : ∃ x, w0.heap.size = x := ⟨_, rfl⟩
  rw [hb0] at q1
  simp only [hb0]
  have l0 : br < b0 := by have := P0.out.lt; omega
  have l0' := q1.av.2 b0 (by simp)
  replace q1 := Lib.hid q1
  replace f1 := Lib.hid f1
  go_wp2_with fail
  refine (h2.out w1 (by omega)).mono ?_
  rintro e w2 ⟨rfl, q2, f2⟩
  obtain ⟨b1, hb1⟩ : ∃ x, w1.heap.size = x := ⟨_, rfl⟩
  rw [hb0, hb1] at q2
  simp only [hb1]
  have l1 : b0 < b1 := by omega
  have l2 : b1 < w2.heap.size := q2.av.2 b1 (by simp)
  replace q2 := Lib.hid q2
  replace f2 := Lib.hid f2
  obtain ⟨w3, hw3⟩ : ∃ x, w2.alloc (.cells #[.pointer (some ⟨b0, 0, none⟩), .pointer (some ⟨b1, 0, none⟩)] TSides) = x := ⟨_, rfl⟩
  obtain ⟨w4, hw4⟩ : ∃ x, w3.alloc (.cells #[.slice none 0 0, .slice none 0 0] TWays) = x := ⟨_, rfl⟩
  obtain ⟨bs, hbs⟩ : ∃ x, w2.heap.size = x := ⟨_, rfl⟩
  obtain ⟨bw, hbw⟩ : ∃ x, w3.heap.size = x := ⟨_, rfl⟩
  have PS3 : Pt w3 bs TSides [.pointer (some ⟨b0, 0, none⟩), .pointer (some ⟨b1, 0, none⟩)] := by rw [← hw3, ← hbs]; exact Pt.newA _ _ _
  have PW4 : Pt w4 bw TWays [.slice none 0 0, .slice none 0 0] := by rw [← hw4, ← hbw]; exact Pt.newA _ _ _
  have g3 : Fr [] w2 w3 := by rw [← hw3]; exact (Fr.refl [] w2).alloc _
  have g4 : Fr [] w3 w4 := by rw [← hw4]; exact (Fr.refl [] w3).alloc _
  have lbs := PS3.lt
  have lbw := PW4.lt
  have G : Fr [] w0 w4 := f1.out.trans (f2.out.trans (g3.trans g4))
  have Q0 : QM b0 w4 bs bw (bbOf b0 b1) (startQ N).sd (startQ N).q (fun _ => .slice none 0 0) (fun _ => none) := by
    have hX : xs bs bw (bbOf b0 b1) (fun _ => none) = [bs, bw, b0, b1] := rfl
    have hlt : ∀ y ∈ [bs, bw, b0, b1], y < w4.heap.size := fun y hy => by
      have := g4.size
      simp at hy
      omega
    have z1 := f2.out.size; have z2 := g3.size
    refine ⟨g4.pt PS3 (by simp), PW4, fun i => Row.nil 6 w4 none, fun i => ?_, by rw [hX]; simp; omega, by rw [hX]; simp; omega⟩
    rw [hX]
    cases i
    · exact q1.out.go (f2.out.trans (g3.trans g4)) (by simp) (by simp [bbOf]) hlt (by simp; omega)
    · exact q2.out.go (g3.trans g4) (by simp) (by simp [bbOf]) hlt (by simp; omega)
  have B0 : Below b0 w0 w4 := G.below (by omega) (by simp)
  replace G := Lib.hid G; replace Q0 := Lib.hid Q0; replace B0 := Lib.hid B0
  replace PS3 := Lib.hid PS3; replace PW4 := Lib.hid PW4; replace g3 := Lib.hid g3; replace g4 := Lib.hid g4
  go_wp2_with fail
  clear hw3 hw4 hw0
  go_loopg [55] (ds.length + 1) (fun k v wr => ∃ (i : Nat) (vv : Bool → Value) (o : Bool → Option Nat), i ≤ ds.length ∧ k + i = ds.length + 1 ∧ v = .int .i64 i ∧ QM b0 wr bs bw (bbOf b0 b1) (runQ (startQ N) (ds.take i)).sd (runQ (startQ N) (ds.take i)).q vv o ∧ Below b0 w0 wr)
  case atStart => exact ⟨0, _, _, by omega, by omega, rfl, Q0.out, B0.out⟩
  case round =>
    obtain ⟨i, vv, o', hi0, hki, rfl, hQ, hB⟩ := hrel
    by_cases hlt : i < ds.length
    · as_aux_lemma =>
      have hltI : (i : Int) < ds.length := by omega
      obtain ⟨B, off, rfl, hBl, hc⟩ := hl.out i hlt
      obtain ⟨n, hn⟩ : ∃ n, ds[i] = n := ⟨_, rfl⟩
      have hnr := hrange.out _ (List.getElem_mem hlt)
      rw [hn] at hc hnr
      have hcr : wr.cell? ⟨B, off + i, none⟩ = some (.int .i64 n) := by
        rw [hB.cell (p := ⟨B, off + i, none⟩) (show B < b0 by omega), f0.out.cell (p := ⟨B, off + i, none⟩) hBl (by simp)]; exact hc
      have hst : runQ (startQ N) (ds.take (i + 1)) = (runQ (startQ N) (ds.take i)).act (n % 12) (sideOf n) (n / 12 / 2) := by rw [runQ_snoc _ _ _ hlt, hn]; rfl
      have hPI := PI.run hN (ds.take i)
      have hcl : (ds.take i).length = i := by rw [List.length_take]; omega
      rw [hcl] at hPI
      obtain ⟨p, hp⟩ : ∃ p, runQ (startQ N) (ds.take i) = p := ⟨_, rfl⟩
      rw [hp] at hst hPI hQ
      have R1 := fun w => rest_any n 12 w (by omega) hnr.1 hnr.2
      have R2 := fun w => rest_any (n / 12) 2 w (by omega) (by omega) (by omega)
      have R3 := fun w => rest_any (n / 12 / 2) 3 w (by omega) (by omega) (by omega)
      have R4 := fun w => rest_any (n / 12 / 2 / 3) 5 w (by omega) (by omega) (by omega)
      have R5 := fun w => rest_any (n / 12 / 2) 1000000 w (by omega) (by omega) (by omega)
      have tr := (by omega : 0 ≤ n / 12 / 2 % 3 ∧ n / 12 / 2 % 3 < 3 ∧ 0 ≤ n / 12 / 2 / 3 % 5 ∧ n / 12 / 2 / 3 % 5 < 5 ∧ 0 ≤ n / 12 / 2 % 1000000 ∧ n / 12 / 2 % 1000000 < 1000000 ∧ 0 ≤ n % 12 ∧ n % 12 < 12)
      obtain ⟨j, hj⟩ : ∃ j, sideOf n = j := ⟨_, rfl⟩
      have hkj : n / 12 % 2 = (j.toNat : Int) := by
        rw [← hj]; unfold sideOf
        by_cases q : n / 12 % 2 = 1
        · rw [decide_eq_true q, q]; rfl
        · rw [decide_eq_false q]; show n / 12 % 2 = 0; omega
      rw [hj] at hst
      obtain ⟨d, hd⟩ : ∃ d, n % 12 = d := ⟨_, rfl⟩
      obtain ⟨k, hk⟩ : ∃ k, n / 12 = k := ⟨_, rfl⟩
      rw [hk] at hkj hst R1 R2 R3 R4 R5 tr
      rw [hd] at hst R1 tr
      obtain ⟨t, ht⟩ : ∃ t, k / 2 = t := ⟨_, rfl⟩
      rw [ht] at hst R2 R3 R4 R5 tr
      obtain ⟨nj, hnj⟩ : ∃ m, j.toNat = m := ⟨_, rfl⟩
      rw [hnj] at hkj
      rw [hkj] at R2
      have hnj2 : (nj : Int) < 2 := by rw [← hnj]; cases j <;> decide
      have hS1 := fun e => meet_any b0 wr bs bw (bbOf b0 b1) p.sd p.q vv o' j e nj (by rw [hnj]) hQ ((hPI.sj j).si (by omega)) (by have := hPI.len (!j); omega)
      have csx : wr.cell? ⟨bs, nj, none⟩ = some (.pointer (some ⟨bbOf b0 b1 j, 0, none⟩)) := by rw [hQ.sides.cell, ← hnj]; exact pair_get (fun k => Value.pointer (some ⟨bbOf b0 b1 k, 0, none⟩)) j
      obtain ⟨bj, hbj⟩ : ∃ b, bbOf b0 b1 j = b := ⟨_, rfl⟩
      have hsm := hQ.sm j
      rw [hbj] at csx hsm
      obtain ⟨vo, vt, hpj, _, _⟩ := hsm
      have ccj := hpj.cell
      simp only [SS.cells] at ccj
      have hSVj := (hPI.sv j).ord
      have hm0 := (hPI.sj j).m0
      have FIN : ∀ (q' : PQ) w5 vv5 o5, runQ (startQ N) (ds.take (i + 1)) = q' → QM b0 w5 bs bw (bbOf b0 b1) q'.sd q'.q vv5 o5 → Below b0 wr w5 →
          ∃ (i' : Nat) (vv : Bool → Value) (o : Bool → Option Nat), i' ≤ ds.length ∧ gk - 1 + i' = ds.length + 1 ∧ Value.int .i64 ((i : Int) + 1) = .int .i64 i' ∧ QM b0 w5 bs bw (bbOf b0 b1) (runQ (startQ N) (ds.take i')).sd (runQ (startQ N) (ds.take i')).q vv o ∧ Below b0 w0 w5 := fun q' w5 vv5 o5 e1 e2 e3 =>
        ⟨i + 1, vv5, o5, by omega, by omega, by go_num, by rw [e1]; exact e2, hB.trans e3⟩
      replace FIN := Lib.hid FIN; replace hst := Lib.hid hst; replace hQ := Lib.hid hQ; replace hB := Lib.hid hB; replace hPI := Lib.hid hPI; replace hS1 := Lib.hid hS1; replace R1 := Lib.hid R1; replace R2 := Lib.hid R2; replace R3 := Lib.hid R3; replace R4 := Lib.hid R4; replace R5 := Lib.hid R5
      replace hp := Lib.hid hp; replace hkj := Lib.hid hkj; replace hnj := Lib.hid hnj; replace hbj := Lib.hid hbj; replace hj := Lib.hid hj; replace hd := Lib.hid hd; replace hk := Lib.hid hk; replace ht := Lib.hid ht; replace hn := Lib.hid hn; replace hpj := Lib.hid hpj; replace hcl := Lib.hid hcl
      clear hc
      obtain ⟨tr1, tr2, tr3, tr4, tr5, tr6, tr7, tr8⟩ := tr
      go_wp2_with fail
      refine (R1.out _).mono ?_
      rintro e w5 ⟨rfl, rfl⟩
      go_wp2_with fail
      refine (R2.out _).mono ?_
      rintro e w5 ⟨rfl, rfl⟩
      rcases (by omega : d = 0 ∨ d = 1 ∨ d = 2 ∨ d = 3 ∨ d = 4 ∨ d = 5 ∨ d = 6 ∨ 7 ≤ d) with rfl | rfl | rfl | rfl | rfl | rfl | rfl | hd7
      · as_aux_lemma =>
          go_wp2_with fail
          refine (hS1.out ptE).mono ?_
          rintro e w5 ⟨rfl, ⟨v', o5, hM'⟩, hB'⟩
          replace hM' := Lib.hid hM'
          replace hB' := Lib.hid hB'
          go_wp2_with fail
          go_roundg (gk - 1)
          case measure => omega
          case rel => exact FIN.out _ _ _ _ (hst.out.trans (act_pt p _ j t (by omega))) hM'.out hB'.out
      · as_aux_lemma =>
          go_wp2_with fail
          refine (hS1.out ptE).mono ?_
          rintro e w5 ⟨rfl, ⟨v', o5, hM'⟩, hB'⟩
          replace hM' := Lib.hid hM'
          replace hB' := Lib.hid hB'
          go_wp2_with fail
          go_roundg (gk - 1)
          case measure => omega
          case rel => exact FIN.out _ _ _ _ (hst.out.trans (act_pt p _ j t (by omega))) hM'.out hB'.out
      · as_aux_lemma =>
          go_wp2_with fail
          refine (hS1.out ptE).mono ?_
          rintro e w5 ⟨rfl, ⟨v', o5, hM'⟩, hB'⟩
          replace hM' := Lib.hid hM'
          replace hB' := Lib.hid hB'
          go_wp2_with fail
          go_roundg (gk - 1)
          case measure => omega
          case rel => exact FIN.out _ _ _ _ (hst.out.trans (act_pt p _ j t (by omega))) hM'.out hB'.out
      · as_aux_lemma =>
        have ha1 := and_1 t
        rcases (by omega : t % 2 = 0 ∨ t % 2 = 1) with q | q
        all_goals
          rw [q] at ha1
          have hE : majE t = ⟨0, if t % 2 = 1 then 4 else 3, 0, 0, 0, ByteArray.empty⟩ := rfl
          first | rw [if_neg (by omega)] at hE | rw [if_pos q] at hE
          have C := hS1.out (majE t)
          have hact := act_maj p j t
          rw [hE] at C hact
          replace C := Lib.hid C; replace hact := Lib.hid hact
          clear hE q
          go_wp2_with fail
          refine C.out.mono ?_
          rintro e w5 ⟨rfl, ⟨v', o5, hM'⟩, hB'⟩
          replace hM' := Lib.hid hM'
          replace hB' := Lib.hid hB'
          go_wp2_with fail
          go_roundg (gk - 1)
          case measure => omega
          case rel => exact FIN.out _ _ _ _ (hst.out.trans (hact.out)) hM'.out hB'.out
      · as_aux_lemma =>
          go_wp2_with fail
          refine (R3.out _).mono ?_
          rintro e w5 ⟨rfl, rfl⟩
          go_wp2_with fail
          refine (hS1.out (cnfE (p.sd j).a t)).mono ?_
          rintro e w5 ⟨rfl, ⟨v', o5, hM'⟩, hB'⟩
          replace hM' := Lib.hid hM'
          replace hB' := Lib.hid hB'
          go_wp2_with fail
          go_roundg (gk - 1)
          case measure => omega
          case rel => exact FIN.out _ _ _ _ (hst.out.trans (act_cnf p j t)) hM'.out hB'.out
      · as_aux_lemma =>
        by_cases q : t % 3 = 2
        · have qb : (t % 3 == 2) = true := by simp [q]
          have C := hS1.out (agnE (p.sd j).r t)
          have hE : agnE (p.sd j).r t = ⟨0, 5, if t % 3 = 2 then t % 1000000 else (p.sd j).r + t / 3 % 5, t % 3, 0, ByteArray.empty⟩ := rfl
          rw [if_pos q] at hE
          have hact := act_agn p j t
          rw [hE] at C hact
          replace C := Lib.hid C; replace hact := Lib.hid hact; replace q := Lib.hid q
          clear hE
          go_wp2_with fail
          refine (R3.out _).mono ?_
          rintro e w5 ⟨rfl, rfl⟩
          go_wp2_with fail
          refine (R4.out _).mono ?_
          rintro e w5 ⟨rfl, rfl⟩
          go_wp2_with fail
          refine (R5.out _).mono ?_
          rintro e w5 ⟨rfl, rfl⟩
          go_wp2_with fail
          refine C.out.mono ?_
          rintro e w5 ⟨rfl, ⟨v', o5, hM'⟩, hB'⟩
          replace hM' := Lib.hid hM'
          replace hB' := Lib.hid hB'
          go_wp2_with fail
          go_roundg (gk - 1)
          case measure => omega
          case rel => exact FIN.out _ _ _ _ (hst.out.trans (hact.out)) hM'.out hB'.out
        · have qb : (t % 3 == 2) = false := by simp [q]
          have C := hS1.out (agnE (p.sd j).r t)
          have hE : agnE (p.sd j).r t = ⟨0, 5, if t % 3 = 2 then t % 1000000 else (p.sd j).r + t / 3 % 5, t % 3, 0, ByteArray.empty⟩ := rfl
          rw [if_neg q] at hE
          have hact := act_agn p j t
          rw [hE] at C hact
          replace C := Lib.hid C; replace hact := Lib.hid hact; replace q := Lib.hid q
          clear hE
          go_wp2_with fail
          refine (R3.out _).mono ?_
          rintro e w5 ⟨rfl, rfl⟩
          go_wp2_with fail
          refine (R4.out _).mono ?_
          rintro e w5 ⟨rfl, rfl⟩
          go_wp2_with fail
          refine C.out.mono ?_
          rintro e w5 ⟨rfl, ⟨v', o5, hM'⟩, hB'⟩
          replace hM' := Lib.hid hM'
          replace hB' := Lib.hid hB'
          go_wp2_with fail
          go_roundg (gk - 1)
          case measure => omega
          case rel => exact FIN.out _ _ _ _ (hst.out.trans (hact.out)) hM'.out hB'.out
      · as_aux_lemma =>
        cases hkt : (p.sd j).kt
        · have hact : p.act 6 j t = p := by rw [act_ans, hkt]; rfl
          simp only [hkt] at ccj
          replace hact := Lib.hid hact; replace hkt := Lib.hid hkt
          go_wp2_with fail
          go_roundg (gk - 1)
          case measure => omega
          case rel => exact FIN.out p wr vv o' (hst.out.trans hact.out) hQ.out ⟨rfl, rfl, rfl, Nat.le_refl _, fun _ _ => rfl⟩
        · have hact : p.act 6 j t = p.meet j (replyE (p.sd j).kn) := by rw [act_ans, hkt]; rfl
          simp only [hkt] at ccj
          replace hact := Lib.hid hact; replace hkt := Lib.hid hkt
          go_wp2_with fail
          refine (hS1.out (replyE (p.sd j).kn)).mono ?_
          rintro e w5 ⟨rfl, ⟨v', o5, hM'⟩, hB'⟩
          replace hM' := Lib.hid hM'
          replace hB' := Lib.hid hB'
          go_wp2_with fail
          go_roundg (gk - 1)
          case measure => omega
          case rel => exact FIN.out _ _ _ _ (hst.out.trans (hact.out)) hM'.out hB'.out
      · as_aux_lemma =>
        have hact := act_pop p d j t hd7
        have x0 : (d == 0) = false := by rw [beq_eq_false_iff_ne]; omega
        have x1 : (d == 1) = false := by rw [beq_eq_false_iff_ne]; omega
        have x2 : (d == 2) = false := by rw [beq_eq_false_iff_ne]; omega
        have x3 : (d == 3) = false := by rw [beq_eq_false_iff_ne]; omega
        have x4 : (d == 4) = false := by rw [beq_eq_false_iff_ne]; omega
        have x5 : (d == 5) = false := by rw [beq_eq_false_iff_ne]; omega
        have x6 : (d == 6) = false := by rw [beq_eq_false_iff_ne]; omega
        have cwx : wr.cell? ⟨bw, nj, none⟩ = some (vv j) := by rw [hQ.out.way.cell, ← hnj.out]; exact pair_get vv j
        cases hqj : p.q j with
        | nil =>
          have hp2 : p.pop j = p := by unfold PQ.pop; rw [hqj]
          have hr := hQ.out.row j
          rw [hqj] at hr
          obtain ⟨oz, cz, hvz⟩ := hr.len
          have hvz' : vv j = .slice oz 0 cz := hvz
          rw [hvz'] at cwx
          rw [hp2] at hact
          replace hact := Lib.hid hact; replace hp2 := Lib.hid hp2; replace hvz := Lib.hid hvz; replace hvz' := Lib.hid hvz'; replace hr := Lib.hid hr; replace hqj := Lib.hid hqj
          go_wp2_with fail
          go_roundg (gk - 1)
          case measure => omega
          case rel => exact FIN.out p wr vv o' (hst.out.trans hact.out) hQ.out ⟨rfl, rfl, rfl, Nat.le_refl _, fun _ _ => rfl⟩
        | cons ev r =>
          have hp2 : p.pop j = PQ.meet ⟨p.sd, upd p.q j r⟩ j ev := by unfold PQ.pop; rw [hqj]
          rw [hp2] at hact
          have hjj : (!j) ≠ j := by cases j <;> simp
          obtain ⟨bq, oq, cap2, hv, hcap, hbl, hbw3, hcells, hLEFT⟩ := hQ.out.pop j hqj
          rw [hnj.out] at hLEFT
          rw [hv] at cwx
          obtain ⟨wq, hwq⟩ : ∃ x, wr.alloc (.cells ev.cells.toArray TEv) = x := ⟨_, rfl⟩
          have PQ' := Pt.newA wr TEv ev.cells.toArray
          rw [hwq] at PQ'
          have FQ : Fr [] wr wq := by rw [← hwq]; exact (Fr.refl [] wr).alloc _
          obtain ⟨bz, hbz⟩ : ∃ x, wr.heap.size = x := ⟨_, rfl⟩
          rw [hbz] at PQ'
          have hbwl := hQ.out.lt bw mem_bw
          have hne1 : bz ≠ bw := by omega
          have hne2 : bw ≠ bz := by omega
          have PWq := FQ.pt hQ.out.way (by simp)
          have cwq : wq.cell? ⟨bw, nj, none⟩ = some (.slice (some ⟨bq, oq, none⟩) (r.length + 1) cap2) := by rw [PWq.cell, ← hnj.out, ← hv]; exact pair_get vv j
          have zwq := PWq.free nj
          have cz := PQ'.cell
          have cw : ∀ u k, (wq.setCell ⟨bw, nj, none⟩ u).cell? ⟨bz, k, none⟩ = ev.cells[k]? := fun u k => (PQ'.ne (p := ⟨bw, nj, none⟩) hne1 u).cell k
          have h0 : (0 : Int) < ((r.length + 1 : Nat) : Int) := by omega
          have hlr : (upd p.q j r (!j)).length < 1000000 := by rw [upd_other p.q j (!j) r hjj]; have := hPI.out.len (!j); omega
          have hIj := (hPI.out.sj j).si (by omega)
          obtain ⟨xw, xk, xa, xb, xc, xd⟩ := ev
          have c0 := hcells 0 (by omega); have c1 := hcells 1 (by omega); have c2 := hcells 2 (by omega); have c3 := hcells 3 (by omega); have c4 := hcells 4 (by omega); have c5 := hcells 5 (by omega)
          simp only [Ev.cells, Nat.add_zero, List.getElem?_cons_zero, List.getElem?_cons_succ] at c0 c1 c2 c3 c4 c5 hwq cz cw
          have hwr0 : IntKind.i64.wrap 0 = 0 := by decide
          replace hact := Lib.hid hact; replace hp2 := Lib.hid hp2; replace hqj := Lib.hid hqj; replace hv := Lib.hid hv; replace hcells := Lib.hid hcells; replace hLEFT := Lib.hid hLEFT; replace PQ' := Lib.hid PQ'; replace FQ := Lib.hid FQ; replace PWq := Lib.hid PWq; replace hlr := Lib.hid hlr; replace hIj := Lib.hid hIj; replace hjj := Lib.hid hjj
          by_cases hc1 : cap2 = 1
          · have LEFT1 := hLEFT.out wq FQ.out _ (if_pos hc1).symm
            subst hc1
            obtain rfl : r = [] := by cases r with | nil => rfl | cons _ _ => simp at hcap
            simp only [List.length_nil] at LEFT1
            replace LEFT1 := Lib.hid LEFT1
            go_wp2_with fail
            obtain ⟨⟨o6, HL⟩, HB⟩ := LEFT1.out
            refine (meet_any b0 _ bs bw (bbOf b0 b1) p.sd _ _ o6 j ⟨xw, xk, xa, xb, xc, xd⟩ nj (by rw [hnj.out]) HL hIj.out hlr.out).mono ?_
            rintro e w5 ⟨rfl, ⟨v', o5, hM'⟩, hB'⟩
            replace hB' := HB.trans hB'
            replace HL := Lib.hid HL; replace HB := Lib.hid HB
            replace hM' := Lib.hid hM'
            replace hB' := Lib.hid hB'
            go_wp2_with fail
            go_roundg (gk - 1)
            case measure => omega
            case rel => exact FIN.out _ _ _ _ (hst.out.trans (hact.out)) hM'.out hB'.out
          · have LEFT1 := hLEFT.out wq FQ.out _ (if_neg hc1).symm
            replace LEFT1 := Lib.hid LEFT1
            have hc2 : (cap2 - 1 = 0) = False := by simp only [eq_iff_iff, iff_false]; omega
            have hc3 : ¬ cap2 ≤ 1 := by omega
            go_wp2_with fail
            obtain ⟨⟨o6, HL⟩, HB⟩ := LEFT1.out
            refine (meet_any b0 _ bs bw (bbOf b0 b1) p.sd _ _ o6 j ⟨xw, xk, xa, xb, xc, xd⟩ nj (by rw [hnj.out]) HL hIj.out hlr.out).mono ?_
            rintro e w5 ⟨rfl, ⟨v', o5, hM'⟩, hB'⟩
            replace hB' := HB.trans hB'
            replace HL := Lib.hid HL; replace HB := Lib.hid HB
            replace hM' := Lib.hid hM'
            replace hB' := Lib.hid hB'
            go_wp2_with fail
            go_roundg (gk - 1)
            case measure => omega
            case rel => exact FIN.out _ _ _ _ (hst.out.trans (hact.out)) hM'.out hB'.out
    · as_aux_lemma =>
      have hi : i = ds.length := by omega
      have hltI : ¬ (i : Int) < ds.length := by omega
      have hie : ds.take i = ds := by rw [hi, List.take_length]
      rw [hie] at hQ
      clear hPP hie
      obtain ⟨p, hp⟩ : ∃ p, runQ (startQ N) ds = p := ⟨_, rfl⟩
      rw [hp] at hQ
      have csx : ∀ j, wr.cell? ⟨bs, j, none⟩ = [Value.pointer (some ⟨b0, 0, none⟩), .pointer (some ⟨b1, 0, none⟩)][j]? := hQ.sides.cell
      have cwx := hQ.way.cell
      obtain ⟨oa, ka, ha⟩ := (hQ.row false).len
      obtain ⟨ob, kb, hb⟩ := (hQ.row true).len
      rw [ha, hb] at cwx
      obtain ⟨voa, vta, hpa, _, _⟩ := hQ.sm false
      obtain ⟨vob, vtb, hpb, _, _⟩ := hQ.sm true
      have hpa' : Pt wr b0 TSide ((p.sd false).cells voa vta) := hpa
      have hpb' : Pt wr b1 TSide ((p.sd true).cells vob vtb) := hpb
      have hPr : Pt wr br 23 [.int .i64 0, .int .i64 0] := (hB.block br (by omega)).trans P0.out
      have hbrw : br < wr.heap.size := hPr.lt
      have hb0w : b0 < wr.heap.size := hpa'.lt
      have hq0 : qz p 0 = (decide ((p.q false).length = 0) && decide ((p.q true).length = 0)) := rfl
      have hq1 : qz p 1 = (qz p 0 && !(p.sd false).wt && !(p.sd false).kt) := rfl
      have hq2 : qz p 2 = (qz p 1 && !(p.sd true).wt && !(p.sd true).kt) := rfl
      have hqq : p.quiet = qz p 2 := rfl
      have FINF : ∀ w', Fr [br] wr w' → Fr [] w w' := fun w' f => by
        have := ((f0.out.below (Nat.le_of_eq hbr.symm) (by simp)).trans ((hB.mono (by omega)).trans (f.below (n := br) (by omega) (by simp))))
        rw [← hbr] at this
        exact Fr.ofBelow this
      have hCA := fun w' (f : Fr [] wr w') => (f.pt hpa' (by simp)).cell
      have hCB := fun w' (f : Fr [] wr w') => (f.pt hpb' (by simp)).cell
      have hCS : ∀ w', Fr [] wr w' → ∀ j, w'.cell? ⟨bs, j, none⟩ = [Value.pointer (some ⟨b0, 0, none⟩), .pointer (some ⟨b1, 0, none⟩)][j]? := fun w' f => (f.pt hQ.sides (by simp)).cell
      obtain ⟨la, hla⟩ : ∃ n, (p.q false).length = n := ⟨_, rfl⟩
      obtain ⟨lb, hlb⟩ : ∃ n, (p.q true).length = n := ⟨_, rfl⟩
      rw [hla, hlb] at cwx hq0
      simp only [SS.cells] at hCA hCB
      have h02 : (0 : Int) < 2 := by omega
      have h12 : (1 : Int) < 2 := by omega
      replace hCA := Lib.hid hCA; replace hCB := Lib.hid hCB; replace hCS := Lib.hid hCS; replace FINF := Lib.hid FINF; replace hq0 := Lib.hid hq0; replace hq1 := Lib.hid hq1; replace hq2 := Lib.hid hq2; replace hqq := Lib.hid hqq; replace hla := Lib.hid hla; replace hlb := Lib.hid hlb; replace hPr := Lib.hid hPr
      replace hpa := Lib.hid hpa; replace hpb := Lib.hid hpb; replace hpa' := Lib.hid hpa'; replace hpb' := Lib.hid hpb'; replace hQ := Lib.hid hQ; replace hB := Lib.hid hB; replace ha := Lib.hid ha; replace hb := Lib.hid hb; replace hp := Lib.hid hp
      clear hi
      go_upto_region 42 with fail
      go_cut [5] from 176 (fun z wx => z = .bool (qz p 0) ∧ wr = wx)
      case first =>
        rcases (by omega : la = 0 ∨ 0 < la) with c | c
        · subst c
          rcases (by omega : lb = 0 ∨ 0 < lb) with c | c
          · subst c
            go_wp2_with fail
            go_meet
            case rel => exact ⟨by rw [hq0.out]; rfl, rfl⟩
          · have c1 : ((lb : Int) == 0) = false := by rw [beq_eq_false_iff_ne]; omega
            have c2 : Hid (decide (lb = 0) = false) := decide_eq_false (by omega)
            go_wp2_with fail
            go_meet
            case rel => exact ⟨by rw [hq0.out, c2.out]; rfl, rfl⟩
        · have c1 : ((la : Int) == 0) = false := by rw [beq_eq_false_iff_ne]; omega
          have c2 : Hid (decide (la = 0) = false) := decide_eq_false (by omega)
          go_wp2_with fail
          go_meet
          case rel => exact ⟨by rw [hq0.out, c2.out]; rfl, rfl⟩
      case rest =>
        obtain ⟨rfl, rfl⟩ := hcut
        obtain ⟨wq, hwq⟩ : ∃ x, x = wr := ⟨_, rfl⟩
        subst hwq
        go_wp2_with fail
        go_loopg [187, 5] 3 (fun k v z wr' => ∃ i : Nat, i ≤ 2 ∧ k + i = 3 ∧ v = .int .i64 i ∧ z = .bool (qz p i) ∧ Fr [] wq wr')
        case atStart => exact ⟨0, by omega, by omega, rfl, rfl, Fr.refl _ _⟩
        case round =>
          obtain ⟨i, hi2, hk2, rfl, rfl, hf⟩ := hrel
          rcases (by omega : i = 0 ∨ i = 1 ∨ i = 2) with rfl | rfl | rfl
          · have ca := hCA.out _ hf
            replace hf := Lib.hid hf
            obtain ⟨z, hz⟩ : ∃ z, qz p 0 = z := ⟨_, rfl⟩
            obtain ⟨y1, hy1⟩ : ∃ z, (p.sd false).wt = z := ⟨_, rfl⟩
            obtain ⟨y2, hy2⟩ : ∃ z, (p.sd false).kt = z := ⟨_, rfl⟩
            have hq := hq1.out
            rw [hz, hy1, hy2] at hq
            simp only [hy1, hy2] at ca
            rw [hz]
            replace hq := Lib.hid hq; replace hz := Lib.hid hz; replace hy1 := Lib.hid hy1; replace hy2 := Lib.hid hy2
            have zc : z = false ∨ (z = true ∧ y1 = true) ∨ (z = true ∧ y1 = false ∧ y2 = true) ∨ (z = true ∧ y1 = false ∧ y2 = false) := by cases z <;> cases y1 <;> cases y2 <;> simp
            rcases zc with rfl | ⟨rfl, rfl⟩ | ⟨rfl, rfl, rfl⟩ | ⟨rfl, rfl, rfl⟩
            all_goals
              go_wp2_with fail
              rw [sides_0]
              go_wp2_with fail
              go_roundg 2
              case measure => omega
              case rel => exact ⟨1, by omega, by omega, rfl, by rw [hq.out]; rfl, hf.out⟩
          · have cb := hCB.out _ hf
            replace hf := Lib.hid hf
            obtain ⟨z, hz⟩ : ∃ z, qz p 1 = z := ⟨_, rfl⟩
            obtain ⟨y1, hy1⟩ : ∃ z, (p.sd true).wt = z := ⟨_, rfl⟩
            obtain ⟨y2, hy2⟩ : ∃ z, (p.sd true).kt = z := ⟨_, rfl⟩
            have hq := hq2.out
            rw [hz, hy1, hy2] at hq
            simp only [hy1, hy2] at cb
            rw [hz]
            replace hq := Lib.hid hq; replace hz := Lib.hid hz; replace hy1 := Lib.hid hy1; replace hy2 := Lib.hid hy2
            have zc : z = false ∨ (z = true ∧ y1 = true) ∨ (z = true ∧ y1 = false ∧ y2 = true) ∨ (z = true ∧ y1 = false ∧ y2 = false) := by cases z <;> cases y1 <;> cases y2 <;> simp
            rcases zc with rfl | ⟨rfl, rfl⟩ | ⟨rfl, rfl, rfl⟩ | ⟨rfl, rfl, rfl⟩
            all_goals
              go_wp2_with fail
              rw [sides_1]
              go_wp2_with fail
              go_roundg 1
              case measure => omega
              case rel => exact ⟨2, by omega, by omega, rfl, by rw [hq.out]; rfl, hf.out⟩
          · have ca := hCA.out _ hf
            have cb := hCB.out _ hf
            have hpr2 := hf.pt hPr.out (by simp)
            have hpc := hpr2.cell
            have hpf := hpr2.free
            obtain ⟨z, hz⟩ : ∃ z, qz p 2 = z := ⟨_, rfl⟩
            rw [hz]
            replace hz := Lib.hid hz; replace hpr2 := Lib.hid hpr2; replace hf := Lib.hid hf
            go_wp2_with fail
            go_region
            go_wp2_with fail
            refine bodyPost_ret (v := .tuple #[.agg #[.int .i64 (p.sd false).m, .int .i64 (p.sd true).m], .bool z, .int .i64 0]) (by simp [results, Try.results21, go_sem, hpc]) rfl ⟨by rw [hp.out]; dsimp only; rw [hqq.out, hz.out], ?_⟩
            have F1 : Fr [br] wq (((wr.setCell ⟨br, 0, none⟩ (.int .i64 (p.sd false).m)).setCell ⟨br, 1, none⟩ (.int .i64 (p.sd true).m)).drew) := (((hf.out.mono (by simp)).setCell (by simp) _).setCell (by simp) _).drew
            exact FINF.out _ F1
/-- Play, whole. -/
theorem playq_any (N : Int) (dv : Value) (ds : List Int) (w : World) (hD : IntArg w dv ds) : Calls Try.prog 21 #[.int .i64 N, dv] w (PlayR (playQ N ds) w) := by
  by_cases h : (0 ≤ N ∧ N ≤ 999999) ∧ ds.length ≤ 300
  · exact playq_in N dv ds w hD h.1 h.2
  · have : playQ N ds = (0, 0, false, 1) := if_neg h
    rw [this]
    exact playq_bad N dv ds w hD (by omega)
end Go.Proofs.Ytjgmlnkbplgloaa
