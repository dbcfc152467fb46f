import Derived.Test.YtehmfnpiidcbpaaGN4
namespace Go.Proofs.Ytehmfnpiidcbpaa
open Go.RowKit
set_option linter.unusedVariables false
set_option linter.unusedSimpArgs false
set_option maxHeartbeats 16000000
set_option maxRecDepth 100000
/-! ### count, large -/
theorem nodesL_take_len (l : List Nd) (i : Nat) (h : i ≤ l.length) : i ≤ nodesL (l.take i) := by
  have := nodesL_len (l.take i)
  rw [List.length_take, Nat.min_eq_left h] at this
  exact this
theorem count_any : ∀ (M : Nat) (n : Nd) (w : World) (v : Value) (left : Nat), n.nodes ≤ M → 1 ≤ left → left ≤ 1000 → NI w n v →
    Calls Try.prog 40 #[v, .int .i64 left] w fun e w' => e = .returned (.int .i64 (left - n.nodes : Nat)) ∧ Fr [] w w'
  | 0, n, w, v, left, hN, _, _, _ => by have := nodes_pos n; omega
  | M + 1, n, w, v, left, hN, h1, h2, hv => by
    have ih := fun (i : Nat) (hi : i < n.kids.length) W s (c : Nat) (h : NI W n.kids[i] s) (h3 : 1 ≤ c) (h4 : c ≤ 1000) => count_any M n.kids[i] W s c (by have := kid_lt hi; omega) h3 h4 h
    obtain ⟨o, cap, rfl, hl⟩ := hv.open
    have e1 := n.nodes_eq
    have hti := fun i (h : i ≤ n.kids.length) => nodesL_take_len n.kids i h
    have htl := fun i => nodesL_take_le n.kids i
    obtain ⟨T, hT⟩ : ∃ x, n.nodes = x := ⟨_, rfl⟩
    rw [hT] at e1 ⊢
    obtain ⟨Rv, hRv⟩ : ∃ x, left - T = x := ⟨_, rfl⟩
    rw [hRv]
    clear hv hN
    obtain ⟨op, hop⟩ : ∃ x, n.op = x := ⟨_, rfl⟩
    obtain ⟨lo, hlo⟩ : ∃ x, n.lo = x := ⟨_, rfl⟩
    obtain ⟨hi, hhi⟩ : ∃ x, n.hi = x := ⟨_, rfl⟩
    obtain ⟨K, hK⟩ : ∃ x, n.kids.length = x := ⟨_, rfl⟩
    rw [hop, hlo, hhi, hK]
    rw [hK] at hti
    have hl1 : (left : Int) - 1 = ((left - 1 : Nat) : Int) := by omega
    obtain ⟨c0, hc0⟩ : ∃ c, left - 1 = c := ⟨_, rfl⟩
    rw [hc0] at hl1
    have hw0 : IntKind.i64.wrap (c0 : Int) = (c0 : Int) := IntWalk.i64_in _ (by omega)
    obtain ⟨w1, hw1⟩ : ∃ x, w.alloc (.cells #[.int .i64 op, .int .i64 lo, .int .i64 hi, .slice o K cap] 40) = x := ⟨_, rfl⟩
    have P1 := Pt.newA w 40 #[.int .i64 op, .int .i64 lo, .int .i64 hi, .slice o K cap]
    rw [hw1] at P1
    have F1 : Fr [] w w1 := by rw [← hw1]; exact (Fr.refl [] w).alloc _
    obtain ⟨b1, hb1⟩ : ∃ x, w.heap.size = x := ⟨_, rfl⟩
    rw [hb1] at P1
    have k1 := P1.cell
    replace ih := Lib.hid ih; replace hl := Lib.hid hl; replace e1 := Lib.hid e1; replace hti := Lib.hid hti; replace htl := Lib.hid htl; replace hT := Lib.hid hT; replace hop := Lib.hid hop; replace hlo := Lib.hid hlo; replace hhi := Lib.hid hhi; replace hK := Lib.hid hK; replace P1 := Lib.hid P1; replace F1 := Lib.hid F1; replace hc0 := Lib.hid hc0; replace hRv := Lib.hid hRv
    go_enter Try.func40, Try.ntmps40
    go_wp2_with fail
    go_loopg [1, 5] (K + 1) (fun k v1 v5 wr => ∃ i : Nat, i ≤ K ∧ k + i = K + 1 ∧ v5 = .int .i64 i ∧ v1 = .int .i64 (c0 - nodesL (n.kids.take i) : Nat) ∧ i ≤ c0 + 1 ∧ Fr [] w1 wr)
    case atStart => exact ⟨0, by omega, by omega, rfl, rfl, by omega, Fr.refl _ _⟩
    case round =>
      obtain ⟨i, hi2, hk, rfl, rfl, hib, hF1⟩ := hrel
      obtain ⟨wi, rfl⟩ : ∃ x : World, x = wr := ⟨_, rfl⟩
      have hF := F1.out.trans hF1
      have k3 := (hF1.pt P1.out (by simp)).cell
      have t1 := hti.out i (by omega)
      have t2 := htl.out i
      obtain ⟨c, hc⟩ : ∃ c, c0 - nodesL (n.kids.take i) = c := ⟨_, rfl⟩
      rw [hc]
      by_cases hlt : i < K
      · have hltI : (i : Int) < K := by omega
        have hil : i < n.kids.length := by have := hK.out; omega
        by_cases hc1 : 0 < c
        · have hcI : (0 : Int) < (c : Int) := by omega
          have d1 := decide_eq_true hc1
          have d2 := decide_eq_true hcI
          have hst := nodesL_take n.kids i hil
          have hpos := nodes_pos n.kids[i]
          obtain ⟨B, off, s, hoB, hB, _, a1, a2, a3, a4, hkid⟩ := hl.out (i) hil
          have x1 := hF.cell (p := ⟨B, off + (i) * 4, none⟩) hB (by simp)
          have x2 := hF.cell (p := ⟨B, off + (i) * 4 + 1, none⟩) hB (by simp)
          have x3 := hF.cell (p := ⟨B, off + (i) * 4 + 2, none⟩) hB (by simp)
          have x4 := hF.cell (p := ⟨B, off + (i) * 4 + 3, none⟩) hB (by simp)
          rw [a1] at x1
          rw [a2] at x2
          rw [a3] at x3
          rw [a4] at x4
          clear a1 a2 a3 a4
          subst hoB
          obtain ⟨so, sL, sc, rfl⟩ := hkid.sl
          obtain ⟨kop, hkop⟩ : ∃ x, n.kids[i].op = x := ⟨_, rfl⟩
          obtain ⟨klo, hklo⟩ : ∃ x, n.kids[i].lo = x := ⟨_, rfl⟩
          obtain ⟨khi, hkhi⟩ : ∃ x, n.kids[i].hi = x := ⟨_, rfl⟩
          rw [hkop] at x1 hkid
          rw [hklo] at x2 hkid
          rw [hkhi] at x3 hkid
          have C := ih.out i hil wi _ c (hkid.go hF) hc1 (by omega)
          have hnx : c - n.kids[i].nodes = c0 - nodesL (n.kids.take (i + 1)) := by rw [hst]; omega
          rw [hnx] at C
          have hib2 : i + 1 ≤ c0 + 1 := by omega
          replace hF := Lib.hid hF; replace hF1 := Lib.hid hF1; replace hkop := Lib.hid hkop; replace hklo := Lib.hid hklo; replace hkhi := Lib.hid hkhi; replace hkid := Lib.hid hkid; replace C := Lib.hid C; replace t1 := Lib.hid t1; replace t2 := Lib.hid t2; replace hc := Lib.hid hc; replace hst := Lib.hid hst; replace hpos := Lib.hid hpos; replace hnx := Lib.hid hnx; replace hib := Lib.hid hib
          go_wp2_with fail
          refine (C.out).mono ?_
          rintro e w3 ⟨rfl, f3⟩
          have F3 := hF1.out.trans f3
          replace f3 := Lib.hid f3; replace F3 := Lib.hid F3
          go_wp2_with fail
          go_roundg (gk - 1)
          case measure => omega
          case rel => exact ⟨i + 1, by omega, by omega, by go_num, rfl, hib2, F3.out⟩
        · obtain rfl : c = 0 := by omega
          have hcI : ¬ (0 : Int) < ((0 : Nat) : Int) := by omega
          have hv : Rv = 0 := by have := e1.out; have := hc0.out; have := hRv.out; omega
          replace hF := Lib.hid hF; replace hF1 := Lib.hid hF1; replace t1 := Lib.hid t1; replace t2 := Lib.hid t2; replace hc := Lib.hid hc; replace hv := Lib.hid hv
          go_wp2_with fail
          go_ret
          exact ⟨ret_i (by have := hv.out; omega), hF.out⟩
      · obtain rfl : i = K := by omega
        have hltI : ¬ (i : Int) < (i : Int) := by omega
        have htk : n.kids.take i = n.kids := List.take_of_length_le (by have := hK.out; omega)
        rw [htk] at hc
        have hv : Rv = c := by have := e1.out; have := hc0.out; have := hRv.out; omega
        replace hF := Lib.hid hF; replace hF1 := Lib.hid hF1; replace htk := Lib.hid htk; replace hc := Lib.hid hc; replace t1 := Lib.hid t1; replace t2 := Lib.hid t2; replace hv := Lib.hid hv
        go_wp2_with fail
        go_ret
        exact ⟨ret_i (by have := hv.out; omega), hF.out⟩
theorem large_any (n : Nd) (w : World) (v : Value) (hv : NI w n v) :
    Calls Try.prog 24 #[v] w fun e w' => e = .returned (.bool (decide (400 ≤ n.nodes))) ∧ Fr [] w w' := by
  have C := fun W (f : Fr [] w W) => count_any n.nodes n W v 400 (Nat.le_refl _) (by omega) (by omega) (hv.go f)
  obtain ⟨o, cap, rfl, hl⟩ := hv.open
  clear hl hv
  obtain ⟨T, hT⟩ : ∃ x, n.nodes = x := ⟨_, rfl⟩
  rw [hT] at C ⊢
  obtain ⟨op, hop⟩ : ∃ x, n.op = x := ⟨_, rfl⟩
  obtain ⟨lo, hlo⟩ : ∃ x, n.lo = x := ⟨_, rfl⟩
  obtain ⟨hi, hhi⟩ : ∃ x, n.hi = x := ⟨_, rfl⟩
  obtain ⟨K, hK⟩ : ∃ x, n.kids.length = x := ⟨_, rfl⟩
  rw [hop, hlo, hhi, hK] at C ⊢
  obtain ⟨c, hc⟩ : ∃ c, 400 - T = c := ⟨_, rfl⟩
  rw [hc] at C
  have hb : decide (400 ≤ T) = decide ((c : Int) ≤ 0) := by congr 1; refine propext ⟨fun h => by omega, fun h => by omega⟩
  rw [hb]
  obtain ⟨w1, hw1⟩ : ∃ x, w.alloc (.cells #[.int .i64 op, .int .i64 lo, .int .i64 hi, .slice o K cap] 40) = x := ⟨_, rfl⟩
  have P1 := Pt.newA w 40 #[.int .i64 op, .int .i64 lo, .int .i64 hi, .slice o K cap]
  rw [hw1] at P1
  have F1 : Fr [] w w1 := by rw [← hw1]; exact (Fr.refl [] w).alloc _
  obtain ⟨b1, hb1⟩ : ∃ x, w.heap.size = x := ⟨_, rfl⟩
  rw [hb1] at P1
  have k1 := P1.cell
  have C1 := C w1 F1
  replace C := Lib.hid C; replace C1 := Lib.hid C1; replace hT := Lib.hid hT; replace hop := Lib.hid hop; replace hlo := Lib.hid hlo; replace hhi := Lib.hid hhi; replace hK := Lib.hid hK; replace hc := Lib.hid hc; replace hb := Lib.hid hb; replace P1 := Lib.hid P1; replace F1 := Lib.hid F1
  go_enter Try.func24, Try.ntmps24
  go_wp2_with fail
  refine (C1.out).mono ?_
  rintro e w3 ⟨rfl, f3⟩
  have F3 := F1.out.trans f3
  replace f3 := Lib.hid f3; replace F3 := Lib.hid F3
  go_wp2_with fail
  go_ret
  exact ⟨by first | rfl | simp, F3.out⟩
/-! ### The reference's size -/
structure RzP (n : Nat) (dp : Nat) (a d : Nat) : Prop where
  ex : n ≤ 200 → a = n ∧ d = dp
  big : 200 < n → 200 < a
  le : a ≤ n
theorem rsize_any : ∀ (M : Nat) (n : Nd) (w : World) (v : Value), n.nodes ≤ M → M ≤ 100000 → NI w n v →
    Calls Try.prog 41 #[v] w fun e w' => (∃ a d : Nat, e = .returned (.tuple #[.int .i64 a, .int .i64 d]) ∧ RzP n.nodes n.deep a d ∧ d ≤ n.nodes) ∧ Fr [] w w'
  | 0, n, w, v, hN, _, _ => by have := nodes_pos n; omega
  | M + 1, n, w, v, hN, hM, hv => by
    have ih := fun (i : Nat) (hi : i < n.kids.length) W s (h : NI W n.kids[i] s) => rsize_any M n.kids[i] W s (by have := kid_lt hi; omega) (by omega) h
    obtain ⟨o, cap, rfl, hl⟩ := hv.open
    have e1 := n.nodes_eq
    have e2 := n.deep_eq
    have e3 := nodesL_len n.kids
    obtain ⟨T, hT⟩ : ∃ T, n.nodes = T := ⟨_, rfl⟩
    obtain ⟨D, hD⟩ : ∃ D, n.deep = D := ⟨_, rfl⟩
    rw [hT, hD]
    rw [hT] at e1 hN
    rw [hD] at e2
    have hsle := fun i => nodesL_take_le n.kids i
    have hdle := fun i => deepL_take_le n.kids i
    obtain ⟨op, hop⟩ : ∃ x, n.op = x := ⟨_, rfl⟩
    obtain ⟨lo, hlo⟩ : ∃ x, n.lo = x := ⟨_, rfl⟩
    obtain ⟨hi, hhi⟩ : ∃ x, n.hi = x := ⟨_, rfl⟩
    obtain ⟨K, hK⟩ : ∃ x, n.kids.length = x := ⟨_, rfl⟩
    rw [hop, hlo, hhi, hK]
    rw [hK] at e3
    have hKb : K ≤ 100000 := by omega
    have hTb : T ≤ 100000 := by omega
    clear hv e3
    obtain ⟨w1, hw1⟩ : ∃ x, w.alloc (.cells #[.int .i64 op, .int .i64 lo, .int .i64 hi, .slice o K cap] 40) = x := ⟨_, rfl⟩
    have P1 := Pt.newA w 40 #[.int .i64 op, .int .i64 lo, .int .i64 hi, .slice o K cap]
    rw [hw1] at P1
    have F1 : Fr [] w w1 := by rw [← hw1]; exact (Fr.refl [] w).alloc _
    obtain ⟨b1, hb1⟩ : ∃ x, w.heap.size = x := ⟨_, rfl⟩
    rw [hb1] at P1
    have k1 := P1.cell
    replace ih := Lib.hid ih; replace hl := Lib.hid hl; replace e1 := Lib.hid e1; replace e2 := Lib.hid e2; replace hT := Lib.hid hT; replace hD := Lib.hid hD; replace hop := Lib.hid hop; replace hlo := Lib.hid hlo; replace hhi := Lib.hid hhi; replace hK := Lib.hid hK; replace hsle := Lib.hid hsle; replace hdle := Lib.hid hdle; replace P1 := Lib.hid P1; replace F1 := Lib.hid F1; replace hN := Lib.hid hN; replace hM := Lib.hid hM
    go_enter Try.func41, Try.ntmps41
    go_wp2_with fail
    go_loopg [4, 5, 6] (K + 1) (fun k v4 v5 v6 wr => ∃ (i a d : Nat), i ≤ K ∧ k + i = K + 1 ∧ v6 = .int .i64 i ∧ v4 = .int .i64 a ∧ v5 = .int .i64 d ∧ RzP (1 + nodesL (n.kids.take i)) (deepL (n.kids.take i)) a d ∧ d ≤ nodesL (n.kids.take i) ∧ Fr [] w1 wr)
    case atStart => exact ⟨0, 1, 0, by omega, by omega, rfl, rfl, rfl, ⟨fun _ => ⟨rfl, rfl⟩, fun h => by simp [nodesL] at h, by simp [nodesL]⟩, by omega, Fr.refl _ _⟩
    case round =>
      obtain ⟨i, a, d, hi2, hk, rfl, rfl, rfl, hR, hd, hF1⟩ := hrel
      obtain ⟨wi, rfl⟩ : ∃ x : World, x = wr := ⟨_, rfl⟩
      have hF := F1.out.trans hF1
      have k3 := (hF1.pt P1.out (by simp)).cell
      have hs1 := hsle.out i
      have ha := hR.le
      have hab : a ≤ 100001 := by have := e1.out; omega
      have hdb : d ≤ 100001 := by have := e1.out; omega
      by_cases hlt : i < K
      · have hltI : (i : Int) < K := by omega
        have hil : i < n.kids.length := by have := hK.out; omega
        by_cases hc : a ≤ 200
        · have hcI : (a : Int) ≤ 200 := by omega
          have t1 := nodesL_take n.kids i hil
          have t2 := deepL_take n.kids i hil
          have hs2 := hsle.out (i + 1)
          obtain ⟨B, off, s, hoB, hB, _, a1, a2, a3, a4, hkid⟩ := hl.out (i) hil
          have x1 := hF.cell (p := ⟨B, off + (i) * 4, none⟩) hB (by simp)
          have x2 := hF.cell (p := ⟨B, off + (i) * 4 + 1, none⟩) hB (by simp)
          have x3 := hF.cell (p := ⟨B, off + (i) * 4 + 2, none⟩) hB (by simp)
          have x4 := hF.cell (p := ⟨B, off + (i) * 4 + 3, none⟩) hB (by simp)
          rw [a1] at x1
          rw [a2] at x2
          rw [a3] at x3
          rw [a4] at x4
          clear a1 a2 a3 a4
          subst hoB
          obtain ⟨so, sL, sc, rfl⟩ := hkid.sl
          obtain ⟨kop, hkop⟩ : ∃ x, n.kids[i].op = x := ⟨_, rfl⟩
          obtain ⟨klo, hklo⟩ : ∃ x, n.kids[i].lo = x := ⟨_, rfl⟩
          obtain ⟨khi, hkhi⟩ : ∃ x, n.kids[i].hi = x := ⟨_, rfl⟩
          rw [hkop] at x1 hkid
          rw [hklo] at x2 hkid
          rw [hkhi] at x3 hkid
          have C := ih.out i hil wi _ (hkid.go hF)
          obtain ⟨tk, htk⟩ : ∃ x, n.kids[i].nodes = x := ⟨_, rfl⟩
          obtain ⟨dk, hdk⟩ : ∃ x, n.kids[i].deep = x := ⟨_, rfl⟩
          rw [htk, hdk] at C
          rw [htk] at t1
          rw [hdk] at t2
          replace t1 := Lib.hid t1; replace t2 := Lib.hid t2; replace hkop := Lib.hid hkop; replace hklo := Lib.hid hklo; replace hkhi := Lib.hid hkhi; replace hF := Lib.hid hF; replace hF1 := Lib.hid hF1; replace C := Lib.hid C; replace htk := Lib.hid htk; replace hdk := Lib.hid hdk; replace hkid := Lib.hid hkid; replace hs2 := Lib.hid hs2; replace hs1 := Lib.hid hs1; replace hR := Lib.hid hR; replace ha := Lib.hid ha; replace hd := Lib.hid hd
          go_wp2_with fail
          refine (C.out).mono ?_
          rintro e w3 ⟨⟨a2, d2, rfl, hR2, q2⟩, f3⟩
          have F4 := hF1.out.trans f3
          have q1 := hR2.le
          have hb2 : a2 ≤ 100001 := by have := t1.out; have := hs2.out; have := e1.out; omega
          have hd2 : d2 ≤ 100001 := by have := t1.out; have := hs2.out; have := e1.out; omega
          obtain ⟨mx, hmx⟩ : ∃ x, max d d2 = x := ⟨_, rfl⟩
          have m1 : max (d : Int) (d2 : Int) = (mx : Int) := by omega
          have m2 : (if (d : Int) < (d2 : Int) then (d2 : Int) else (d : Int)) = (mx : Int) := by split <;> omega
          have m3 : (if d < d2 then (d2 : Int) else (d : Int)) = (mx : Int) := by split <;> omega
          have NX : RzP (1 + nodesL (n.kids.take (i + 1))) (deepL (n.kids.take (i + 1))) (a + a2) mx := by
            have := hR.out; have := hR2; have t1 := t1.out; have t2 := t2.out; have ha := ha.out; have hd := hd.out
            rw [t1, t2]
            have hex : a = 1 + nodesL (n.kids.take i) ∧ d = deepL (n.kids.take i) := hR.out.ex (by
              rcases Nat.lt_or_ge 200 (1 + nodesL (n.kids.take i)) with h | h
              · have := hR.out.big h; omega
              · exact h)
            refine ⟨fun h => ?_, fun h => ?_, by omega⟩
            · have := hR2.ex (by omega); omega
            · rcases Nat.lt_or_ge 200 tk with h3 | h3
              · have := hR2.big h3; omega
              · have := hR2.ex h3; omega
          have NXd : mx ≤ nodesL (n.kids.take (i + 1)) := by have := t1.out; have := hd.out; omega
          replace f3 := Lib.hid f3; replace F4 := Lib.hid F4; replace q1 := Lib.hid q1; replace q2 := Lib.hid q2; replace hR2 := Lib.hid hR2; replace NX := Lib.hid NX; replace hmx := Lib.hid hmx; replace NXd := Lib.hid NXd
          go_wp2_with fail
          all_goals
            go_roundg (gk - 1)
            case measure => omega
            case rel => exact ⟨i + 1, a + a2, mx, by omega, by omega, by go_num, by go_num, rfl, NX.out, NXd.out, F4.out⟩
        · have hcI : ¬ (a : Int) ≤ 200 := by omega
          have GO : RzP T D a (d + 1) := ⟨fun h => by have := e1.out; omega, fun _ => by omega, by have := e1.out; omega⟩
          have GD : d + 1 ≤ T := by have := e1.out; omega
          replace hF := Lib.hid hF; replace hF1 := Lib.hid hF1; replace hR := Lib.hid hR; replace ha := Lib.hid ha; replace hd := Lib.hid hd; replace hs1 := Lib.hid hs1; replace GO := Lib.hid GO; replace GD := Lib.hid GD
          go_wp2_with fail
          go_ret2
          exact ⟨⟨a, d + 1, by go_num, GO.out, GD.out⟩, hF.out⟩
      · obtain rfl : i = K := by omega
        have hltI : ¬ (i : Int) < (i : Int) := by omega
        have htk : n.kids.take i = n.kids := List.take_of_length_le (by have := hK.out; omega)
        rw [htk] at hR hd
        have GO : RzP T D a (d + 1) := ⟨fun h => by have := hR.ex (by have := e1.out; omega); have := e1.out; have := e2.out; omega, fun h => hR.big (by have := e1.out; omega), by have := e1.out; have := hR.le; omega⟩
        have GD : d + 1 ≤ T := by have := e1.out; omega
        replace hF := Lib.hid hF; replace hF1 := Lib.hid hF1; replace hR := Lib.hid hR; replace ha := Lib.hid ha; replace hd := Lib.hid hd; replace hs1 := Lib.hid hs1; replace GO := Lib.hid GO; replace GD := Lib.hid GD; replace htk := Lib.hid htk
        go_wp2_with fail
        go_ret2
        exact ⟨⟨a, d + 1, by go_num, GO.out, GD.out⟩, hF.out⟩
end Go.Proofs.Ytehmfnpiidcbpaa
