import Derived.Test.YtehmfnpiidcbpaaGR1
namespace Go.Proofs.Ytehmfnpiidcbpaa
open Go.RowKit
set_option linter.unusedVariables false
set_option linter.unusedSimpArgs false
set_option maxHeartbeats 16000000
set_option maxRecDepth 100000
/-! ### Holds -/
theorem take_any_succ (ks : List Nd) (p : Nd → Bool) (i : Nat) (h : i < ks.length) : (ks.take (i + 1)).any p = ((ks.take i).any p || p ks[i]) := by
  rw [List.take_succ_eq_append_getElem h, List.any_append]; simp
theorem take_all_succ (ks : List Nd) (p : Nd → Bool) (i : Nat) (h : i < ks.length) : (ks.take (i + 1)).all p = ((ks.take i).all p && p ks[i]) := by
  rw [List.take_succ_eq_append_getElem h, List.all_append]; simp
theorem kids_getR (n : Nd) (x : Int) (i : Nat) (h : i < n.kids.length) : (n.kids.map (Nd.hold x)).getD i false = n.kids[i].hold x := by
  rw [List.getD_eq_getElem?_getD, List.getElem?_map, List.getElem?_eq_getElem h]; rfl
theorem holds_any : ∀ (M : Nat) (n : Nd) (w : World) (v : Value) (x : Int), n.nodes ≤ M → M ≤ 100000 → n.wk = true → NI w n v →
    Calls Try.prog 28 #[v, .int .i64 x] w fun e w' => e = .returned (.bool (n.hold x)) ∧ Fr [] w w'
  | 0, n, w, v, x, hN, _, _, _ => by have := nodes_pos n; omega
  | M + 1, n, w, v, x, hN, hM, hs, hv => by
    have ih := fun (i : Nat) (hi : i < n.kids.length) W s (h : NI W n.kids[i] s) => holds_any M n.kids[i] W s x (by have := kid_lt hi; omega) (by omega) (wk_kid hs (List.getElem_mem hi)) h
    obtain ⟨o, cap, rfl, hl⟩ := hv.open
    have e3 := nodesL_len n.kids
    have e4 := n.nodes_eq
    have w2' := @wk_2 n hs
    have w3' := @wk_3 n hs
    have w5' := @wk_5 n hs
    have HE := n.hold_eq x
    have hKb0 : n.kids.length ≤ 100000 := by omega
    clear hv hN hM e3 e4
    obtain ⟨op, hop⟩ : ∃ x, n.op = x := ⟨_, rfl⟩
    obtain ⟨lo, hlo⟩ : ∃ x, n.lo = x := ⟨_, rfl⟩
    obtain ⟨hi, hhi⟩ : ∃ x, n.hi = x := ⟨_, rfl⟩
    obtain ⟨K, hK⟩ : ∃ x, n.kids.length = x := ⟨_, rfl⟩
    obtain ⟨V, hV⟩ : ∃ y, n.hold x = y := ⟨_, rfl⟩
    rw [hop, hlo, hhi, hK, hV]
    rw [hV, hop, hlo, hhi] at HE
    rw [hop, hK] at w2' w3' w5'
    rw [hK] at hKb0
    have hKI : K ≤ 100000 := hKb0
    obtain ⟨w1, hw1⟩ : ∃ x, w.alloc (.cells #[.int .i64 op, .int .i64 lo, .int .i64 hi, .slice o K cap] 40) = x := ⟨_, rfl⟩
    have P1 := Pt.newA w 40 #[.int .i64 op, .int .i64 lo, .int .i64 hi, .slice o K cap]
    rw [hw1] at P1
    have F1 : Fr [] w w1 := by rw [← hw1]; exact (Fr.refl [] w).alloc _
    obtain ⟨b1, hb1⟩ : ∃ x, w.heap.size = x := ⟨_, rfl⟩
    rw [hb1] at P1
    have k1 := P1.cell
    by_cases h0 : op = 0
    · as_aux_lemma =>
      subst h0
      rw [if_pos rfl] at HE
      clear w2' w3' w5'
      by_cases c1 : lo ≤ x
      · have d1 := decide_eq_true c1
        rw [d1, Bool.true_and] at HE
        by_cases c2 : x ≤ hi
        · have d2 := decide_eq_true c2
          obtain rfl : V = true := by rw [HE]; exact d2
          clear HE
          replace ih := Lib.hid ih; replace hl := Lib.hid hl; replace hop := Lib.hid hop; replace hlo := Lib.hid hlo; replace hhi := Lib.hid hhi; replace hK := Lib.hid hK; replace hV := Lib.hid hV; replace hs := Lib.hid hs; replace P1 := Lib.hid P1; replace F1 := Lib.hid F1
          go_enter Try.func28, Try.ntmps28
          go_wp2_with fail
          go_ret
          exact ⟨rfl, F1.out⟩
        · have d2 := decide_eq_false c2
          obtain rfl : V = false := by rw [HE]; exact d2
          clear HE
          replace ih := Lib.hid ih; replace hl := Lib.hid hl; replace hop := Lib.hid hop; replace hlo := Lib.hid hlo; replace hhi := Lib.hid hhi; replace hK := Lib.hid hK; replace hV := Lib.hid hV; replace hs := Lib.hid hs; replace P1 := Lib.hid P1; replace F1 := Lib.hid F1
          go_enter Try.func28, Try.ntmps28
          go_wp2_with fail
          go_ret
          exact ⟨rfl, F1.out⟩
      · have d1 := decide_eq_false c1
        obtain rfl : V = false := by rw [HE, d1]; rfl
        clear HE
        replace ih := Lib.hid ih; replace hl := Lib.hid hl; replace hop := Lib.hid hop; replace hlo := Lib.hid hlo; replace hhi := Lib.hid hhi; replace hK := Lib.hid hK; replace hV := Lib.hid hV; replace hs := Lib.hid hs; replace P1 := Lib.hid P1; replace F1 := Lib.hid F1
        go_enter Try.func28, Try.ntmps28
        go_wp2_with fail
        go_ret
        exact ⟨rfl, F1.out⟩
    have y0 : (op == 0) = false := by simpa using h0
    rw [if_neg h0] at HE
    by_cases h1 : op = 1
    · as_aux_lemma =>
      subst h1
      rw [if_pos rfl] at HE
      clear w2' w3' w5' h0 y0
      replace ih := Lib.hid ih; replace hl := Lib.hid hl; replace hop := Lib.hid hop; replace hlo := Lib.hid hlo; replace hhi := Lib.hid hhi; replace hK := Lib.hid hK; replace hV := Lib.hid hV; replace hs := Lib.hid hs; replace P1 := Lib.hid P1; replace F1 := Lib.hid F1; replace HE := Lib.hid HE
      go_enter Try.func28, Try.ntmps28
      go_wp2_with fail
      go_loopg [5] (K + 1) (fun k v5 wr => ∃ i : Nat, i ≤ K ∧ k + i = K + 1 ∧ v5 = .int .i64 i ∧ (n.kids.take i).any (Nd.hold x) = false ∧ Fr [] w1 wr)
      case atStart => exact ⟨0, by omega, by omega, rfl, rfl, Fr.refl _ _⟩
      case round =>
        obtain ⟨i, hi2, hk, rfl, hno, hF1⟩ := hrel
        obtain ⟨wi, rfl⟩ : ∃ x : World, x = wr := ⟨_, rfl⟩
        have hF := F1.out.trans hF1
        have k3 := (hF1.pt P1.out (by simp)).cell
        by_cases hlt : i < K
        · have hltI : (i : Int) < K := by omega
          have hil : i < n.kids.length := by have := hK.out; omega
          have hsu := take_any_succ n.kids (Nd.hold x) i hil
          rw [hno] at hsu
          obtain ⟨B, off, s, hoB, hB, _, a1, a2, a3, a4, hkid⟩ := hl.out (i) hil
          have x1 := hF.cell (p := ⟨B, off + (i) * 4, none⟩) hB (by simp)
          have x2 := hF.cell (p := ⟨B, off + (i) * 4 + 1, none⟩) hB (by simp)
          have x3 := hF.cell (p := ⟨B, off + (i) * 4 + 2, none⟩) hB (by simp)
          have x4 := hF.cell (p := ⟨B, off + (i) * 4 + 3, none⟩) hB (by simp)
          rw [a1] at x1
          rw [a2] at x2
          rw [a3] at x3
          rw [a4] at x4
          clear a1 a2 a3 a4
          subst hoB
          obtain ⟨so, sL, sc, rfl⟩ := hkid.sl
          obtain ⟨kop, hkop⟩ : ∃ x, n.kids[i].op = x := ⟨_, rfl⟩
          obtain ⟨klo, hklo⟩ : ∃ x, n.kids[i].lo = x := ⟨_, rfl⟩
          obtain ⟨khi, hkhi⟩ : ∃ x, n.kids[i].hi = x := ⟨_, rfl⟩
          rw [hkop] at x1 hkid
          rw [hklo] at x2 hkid
          rw [hkhi] at x3 hkid
          have C := ih.out i hil wi _ (hkid.go hF)
          obtain ⟨z, hz⟩ : ∃ z, n.kids[i].hold x = z := ⟨_, rfl⟩
          rw [hz] at C hsu
          replace hF := Lib.hid hF; replace hF1 := Lib.hid hF1; replace hkop := Lib.hid hkop; replace hklo := Lib.hid hklo; replace hkhi := Lib.hid hkhi; replace hkid := Lib.hid hkid; replace C := Lib.hid C; replace hno := Lib.hid hno; replace hsu := Lib.hid hsu; replace hz := Lib.hid hz
          go_wp2_with fail
          refine (C.out).mono ?_
          rintro e w3 ⟨rfl, f3⟩
          have F3 := hF1.out.trans f3
          have FF := hF.out.trans f3
          replace f3 := Lib.hid f3; replace F3 := Lib.hid F3; replace FF := Lib.hid FF
          cases z
          · go_wp2_with fail
            go_roundg (gk - 1)
            case measure => omega
            case rel => exact ⟨i + 1, by omega, by omega, by go_num, by rw [hsu.out]; rfl, F3.out⟩
          · have hv : V = true := by
              rw [HE.out]
              exact List.any_eq_true.2 ⟨_, List.getElem_mem hil, by first | exact hz.out | (rw [show n.kids[i].hold x = true from of_eq_true (hz.out)])⟩
            replace hv := Lib.hid hv
            go_wp2_with fail
            go_ret
            exact ⟨ret_b hv.out.symm, FF.out⟩
        · obtain rfl : i = K := by omega
          have hltI : ¬ (i : Int) < (i : Int) := by omega
          have htk : n.kids.take i = n.kids := List.take_of_length_le (by have := hK.out; omega)
          rw [htk] at hno
          have hv : V = false := by rw [HE.out]; exact hno
          replace hF := Lib.hid hF; replace hF1 := Lib.hid hF1; replace htk := Lib.hid htk; replace hno := Lib.hid hno; replace hv := Lib.hid hv
          go_wp2_with fail
          go_ret
          exact ⟨ret_b hv.out.symm, hF.out⟩
    have y1 : (op == 1) = false := by simpa using h1
    rw [if_neg h1] at HE
    by_cases h2 : op = 2
    · as_aux_lemma =>
      subst h2
      rw [if_pos rfl] at HE
      clear w2' w3' w5' h0 y0 h1 y1
      replace ih := Lib.hid ih; replace hl := Lib.hid hl; replace hop := Lib.hid hop; replace hlo := Lib.hid hlo; replace hhi := Lib.hid hhi; replace hK := Lib.hid hK; replace hV := Lib.hid hV; replace hs := Lib.hid hs; replace P1 := Lib.hid P1; replace F1 := Lib.hid F1; replace HE := Lib.hid HE
      go_enter Try.func28, Try.ntmps28
      go_wp2_with fail
      go_loopg [6] (K + 1) (fun k v5 wr => ∃ i : Nat, i ≤ K ∧ k + i = K + 1 ∧ v5 = .int .i64 i ∧ (n.kids.take i).all (Nd.hold x) = true ∧ Fr [] w1 wr)
      case atStart => exact ⟨0, by omega, by omega, rfl, rfl, Fr.refl _ _⟩
      case round =>
        obtain ⟨i, hi2, hk, rfl, hno, hF1⟩ := hrel
        obtain ⟨wi, rfl⟩ : ∃ x : World, x = wr := ⟨_, rfl⟩
        have hF := F1.out.trans hF1
        have k3 := (hF1.pt P1.out (by simp)).cell
        by_cases hlt : i < K
        · have hltI : (i : Int) < K := by omega
          have hil : i < n.kids.length := by have := hK.out; omega
          have hsu := take_all_succ n.kids (Nd.hold x) i hil
          rw [hno] at hsu
          obtain ⟨B, off, s, hoB, hB, _, a1, a2, a3, a4, hkid⟩ := hl.out (i) hil
          have x1 := hF.cell (p := ⟨B, off + (i) * 4, none⟩) hB (by simp)
          have x2 := hF.cell (p := ⟨B, off + (i) * 4 + 1, none⟩) hB (by simp)
          have x3 := hF.cell (p := ⟨B, off + (i) * 4 + 2, none⟩) hB (by simp)
          have x4 := hF.cell (p := ⟨B, off + (i) * 4 + 3, none⟩) hB (by simp)
          rw [a1] at x1
          rw [a2] at x2
          rw [a3] at x3
          rw [a4] at x4
          clear a1 a2 a3 a4
          subst hoB
          obtain ⟨so, sL, sc, rfl⟩ := hkid.sl
          obtain ⟨kop, hkop⟩ : ∃ x, n.kids[i].op = x := ⟨_, rfl⟩
          obtain ⟨klo, hklo⟩ : ∃ x, n.kids[i].lo = x := ⟨_, rfl⟩
          obtain ⟨khi, hkhi⟩ : ∃ x, n.kids[i].hi = x := ⟨_, rfl⟩
          rw [hkop] at x1 hkid
          rw [hklo] at x2 hkid
          rw [hkhi] at x3 hkid
          have C := ih.out i hil wi _ (hkid.go hF)
          obtain ⟨z, hz⟩ : ∃ z, n.kids[i].hold x = z := ⟨_, rfl⟩
          rw [hz] at C hsu
          replace hF := Lib.hid hF; replace hF1 := Lib.hid hF1; replace hkop := Lib.hid hkop; replace hklo := Lib.hid hklo; replace hkhi := Lib.hid hkhi; replace hkid := Lib.hid hkid; replace C := Lib.hid C; replace hno := Lib.hid hno; replace hsu := Lib.hid hsu; replace hz := Lib.hid hz
          go_wp2_with fail
          refine (C.out).mono ?_
          rintro e w3 ⟨rfl, f3⟩
          have F3 := hF1.out.trans f3
          have FF := hF.out.trans f3
          replace f3 := Lib.hid f3; replace F3 := Lib.hid F3; replace FF := Lib.hid FF
          cases z
          · have hv : V = false := by
              rw [HE.out]
              rw [← Bool.not_eq_true, List.all_eq_true]; intro h; have := h _ (List.getElem_mem hil); rw [hz.out] at this; cases this
            replace hv := Lib.hid hv
            go_wp2_with fail
            go_ret
            exact ⟨ret_b hv.out.symm, FF.out⟩
          · go_wp2_with fail
            go_roundg (gk - 1)
            case measure => omega
            case rel => exact ⟨i + 1, by omega, by omega, by go_num, by rw [hsu.out]; rfl, F3.out⟩
        · obtain rfl : i = K := by omega
          have hltI : ¬ (i : Int) < (i : Int) := by omega
          have htk : n.kids.take i = n.kids := List.take_of_length_le (by have := hK.out; omega)
          rw [htk] at hno
          have hv : V = true := by rw [HE.out]; exact hno
          replace hF := Lib.hid hF; replace hF1 := Lib.hid hF1; replace htk := Lib.hid htk; replace hno := Lib.hid hno; replace hv := Lib.hid hv
          go_wp2_with fail
          go_ret
          exact ⟨ret_b hv.out.symm, hF.out⟩
    have y2 : (op == 2) = false := by simpa using h2
    rw [if_neg h2] at HE
    by_cases h3 : op = 3
    · as_aux_lemma =>
      subst h3
      have h2 := w3' rfl
      rw [if_pos rfl] at HE
      clear w2' w3' w5' h0 y0 h1 y1
      have h2I : (1 : Int) < (K : Int) := by omega
      have h2J : (0 : Int) < (K : Int) := by omega
      have h2a : 0 < K := by omega
      have h2b : 1 < K := by omega
      have hi0 : 0 < n.kids.length := by omega
      have hi1 : 1 < n.kids.length := by omega
      rw [kids_getR n x 0 hi0, kids_getR n x 1 hi1] at HE
      obtain ⟨B, off, s0, hoB, hB, _, a1, a2, a3, a4, hkid⟩ := hl 0 hi0
      obtain ⟨B', off', s1, hoB', _, _, c1, c2, c3, c4, hkid'⟩ := hl 1 hi1
      subst hoB
      cases hoB'
      obtain ⟨so, sL, sc, rfl⟩ := hkid.sl
      obtain ⟨so', sL', sc', rfl⟩ := hkid'.sl
      have C0 := fun W (f : Fr [] w W) => ih 0 hi0 W _ (hkid.go f)
      have C1 := fun W (f : Fr [] w W) => ih 1 hi1 W _ (hkid'.go f)
      obtain ⟨z0, hz0⟩ : ∃ z, n.kids[0].hold x = z := ⟨_, rfl⟩
      obtain ⟨z1, hz1⟩ : ∃ z, n.kids[1].hold x = z := ⟨_, rfl⟩
      rw [hz0] at C0 HE
      rw [hz1] at C1 HE
      have cc : ∀ W, Fr [] w W → (W.cell? ⟨B, off, none⟩ = some (.int .i64 n.kids[0].op) ∧ W.cell? ⟨B, off + 1, none⟩ = some (.int .i64 n.kids[0].lo) ∧ W.cell? ⟨B, off + 2, none⟩ = some (.int .i64 n.kids[0].hi) ∧ W.cell? ⟨B, off + 3, none⟩ = some (.slice so sL sc)) ∧ (W.cell? ⟨B, off + 4, none⟩ = some (.int .i64 n.kids[1].op) ∧ W.cell? ⟨B, off + 4 + 1, none⟩ = some (.int .i64 n.kids[1].lo) ∧ W.cell? ⟨B, off + 4 + 2, none⟩ = some (.int .i64 n.kids[1].hi) ∧ W.cell? ⟨B, off + 4 + 3, none⟩ = some (.slice so' sL' sc')) := fun W f => by
        simp only [Nat.zero_mul, Nat.one_mul, Nat.add_zero] at a1 a2 a3 a4 c1 c2 c3 c4
        refine ⟨⟨?_, ?_, ?_, ?_⟩, ?_, ?_, ?_, ?_⟩
        · rw [f.cell (p := ⟨B, off, none⟩) hB (by simp)]; exact a1
        · rw [f.cell (p := ⟨B, off + 1, none⟩) hB (by simp)]; exact a2
        · rw [f.cell (p := ⟨B, off + 2, none⟩) hB (by simp)]; exact a3
        · rw [f.cell (p := ⟨B, off + 3, none⟩) hB (by simp)]; exact a4
        · rw [f.cell (p := ⟨B, off + 4, none⟩) hB (by simp)]; exact c1
        · rw [f.cell (p := ⟨B, off + 4 + 1, none⟩) hB (by simp)]; exact c2
        · rw [f.cell (p := ⟨B, off + 4 + 2, none⟩) hB (by simp)]; exact c3
        · rw [f.cell (p := ⟨B, off + 4 + 3, none⟩) hB (by simp)]; exact c4
      clear a1 a2 a3 a4 c1 c2 c3 c4 hkid hkid'
      obtain ⟨p0, hp0⟩ : ∃ y, n.kids[0].op = y := ⟨_, rfl⟩
      obtain ⟨p1, hp1⟩ : ∃ y, n.kids[0].lo = y := ⟨_, rfl⟩
      obtain ⟨p2, hp2⟩ : ∃ y, n.kids[0].hi = y := ⟨_, rfl⟩
      obtain ⟨q0, hq0⟩ : ∃ y, n.kids[1].op = y := ⟨_, rfl⟩
      obtain ⟨q1, hq1⟩ : ∃ y, n.kids[1].lo = y := ⟨_, rfl⟩
      obtain ⟨q2, hq2⟩ : ∃ y, n.kids[1].hi = y := ⟨_, rfl⟩
      rw [hp0, hp1, hp2] at cc C0
      rw [hq0, hq1, hq2] at cc C1
      obtain ⟨⟨x1, x2, x3, x4⟩, x5, x6, x7, x8⟩ := cc w1 F1
      have D0 := C0 w1 F1
      replace ih := Lib.hid ih; replace hl := Lib.hid hl; replace hop := Lib.hid hop; replace hlo := Lib.hid hlo; replace hhi := Lib.hid hhi; replace hK := Lib.hid hK; replace hV := Lib.hid hV; replace hs := Lib.hid hs; replace P1 := Lib.hid P1; replace F1 := Lib.hid F1; replace HE := Lib.hid HE; replace C0 := Lib.hid C0; replace C1 := Lib.hid C1; replace cc := Lib.hid cc; replace hz0 := Lib.hid hz0; replace hz1 := Lib.hid hz1; replace hp0 := Lib.hid hp0; replace hp1 := Lib.hid hp1; replace hp2 := Lib.hid hp2; replace hq0 := Lib.hid hq0; replace hq1 := Lib.hid hq1; replace hq2 := Lib.hid hq2; replace D0 := Lib.hid D0
      go_enter Try.func28, Try.ntmps28
      go_wp2_with fail
      refine (D0.out).mono ?_
      rintro e w2 ⟨rfl, f2⟩
      have F2 := F1.out.trans f2
      have k2 := (f2.pt P1.out (by simp)).cell
      obtain ⟨⟨y1, y2, y3, y4⟩, y5, y6, y7, y8⟩ := cc.out w2 F2
      have D1 := C1.out w2 F2
      replace f2 := Lib.hid f2; replace F2 := Lib.hid F2; replace D1 := Lib.hid D1
      clear x1 x2 x3 x4 x5 x6 x7 x8
      cases z0
      · have hv : V = false := HE.out
        replace hv := Lib.hid hv
        go_wp2_with fail
        go_ret
        exact ⟨ret_b hv.out.symm, F2.out⟩
      · go_wp2_with fail
        refine (D1.out).mono ?_
        rintro e w3 ⟨rfl, f3⟩
        have F3 := F2.out.trans f3
        have hv : V = !z1 := HE.out
        replace f3 := Lib.hid f3; replace F3 := Lib.hid F3; replace hv := Lib.hid hv
        go_wp2_with fail
        go_ret
        exact ⟨ret_b hv.out.symm, F3.out⟩
    have y3 : (op == 3) = false := by simpa using h3
    rw [if_neg h3] at HE
    by_cases h5 : op = 5
    · as_aux_lemma =>
      subst h5
      have h2 := w5' rfl
      rw [if_pos rfl] at HE
      clear w2' w3' w5' h0 y0 h1 y1
      have h2J : (0 : Int) < (K : Int) := by omega
      have hil : 0 < n.kids.length := by omega
      rw [kids_getR n x 0 hil] at HE
      replace hl := Lib.hid hl
      obtain ⟨B, off, s, hoB, hB, _, a1, a2, a3, a4, hkid⟩ := hl.out (0) hil
      have x1 := F1.cell (p := ⟨B, off + (0) * 4, none⟩) hB (by simp)
      have x2 := F1.cell (p := ⟨B, off + (0) * 4 + 1, none⟩) hB (by simp)
      have x3 := F1.cell (p := ⟨B, off + (0) * 4 + 2, none⟩) hB (by simp)
      have x4 := F1.cell (p := ⟨B, off + (0) * 4 + 3, none⟩) hB (by simp)
      rw [a1] at x1
      rw [a2] at x2
      rw [a3] at x3
      rw [a4] at x4
      clear a1 a2 a3 a4
      subst hoB
      obtain ⟨so, sL, sc, rfl⟩ := hkid.sl
      obtain ⟨kop, hkop⟩ : ∃ x, n.kids[0].op = x := ⟨_, rfl⟩
      obtain ⟨klo, hklo⟩ : ∃ x, n.kids[0].lo = x := ⟨_, rfl⟩
      obtain ⟨khi, hkhi⟩ : ∃ x, n.kids[0].hi = x := ⟨_, rfl⟩
      rw [hkop] at x1 hkid
      rw [hklo] at x2 hkid
      rw [hkhi] at x3 hkid
      simp only [Nat.zero_mul, Nat.add_zero] at x1 x2 x3 x4
      have C := ih 0 hil w1 _ (hkid.go F1)
      rw [← HE] at C
      replace ih := Lib.hid ih; replace hop := Lib.hid hop; replace hlo := Lib.hid hlo; replace hhi := Lib.hid hhi; replace hK := Lib.hid hK; replace hV := Lib.hid hV; replace hs := Lib.hid hs; replace P1 := Lib.hid P1; replace F1 := Lib.hid F1; replace HE := Lib.hid HE; replace hkop := Lib.hid hkop; replace hklo := Lib.hid hklo; replace hkhi := Lib.hid hkhi; replace hkid := Lib.hid hkid; replace C := Lib.hid C
      go_enter Try.func28, Try.ntmps28
      go_wp2_with fail
      refine (C.out).mono ?_
      rintro e w3 ⟨rfl, f3⟩
      have F3 := F1.out.trans f3
      replace f3 := Lib.hid f3; replace F3 := Lib.hid F3
      go_wp2_with fail
      go_ret
      exact ⟨rfl, F3.out⟩
    have y5 : (op == 5) = false := by simpa using h5
    rw [if_neg h5] at HE
    clear w2' w3' w5' h0 h1 h2 h3 h5
    by_cases c1 : -1000000000000000 ≤ x
    · have d1 := decide_eq_true c1
      rw [d1, Bool.true_and] at HE
      by_cases c2 : x ≤ 1000000000000000
      · have d2 := decide_eq_true c2
        obtain rfl : V = true := by rw [HE]; exact d2
        clear HE
        replace ih := Lib.hid ih; replace hl := Lib.hid hl; replace hop := Lib.hid hop; replace hlo := Lib.hid hlo; replace hhi := Lib.hid hhi; replace hK := Lib.hid hK; replace hV := Lib.hid hV; replace hs := Lib.hid hs; replace P1 := Lib.hid P1; replace F1 := Lib.hid F1
        go_enter Try.func28, Try.ntmps28
        go_wp2_with fail
        go_ret
        exact ⟨rfl, F1.out⟩
      · have d2 := decide_eq_false c2
        obtain rfl : V = false := by rw [HE]; exact d2
        clear HE
        replace ih := Lib.hid ih; replace hl := Lib.hid hl; replace hop := Lib.hid hop; replace hlo := Lib.hid hlo; replace hhi := Lib.hid hhi; replace hK := Lib.hid hK; replace hV := Lib.hid hV; replace hs := Lib.hid hs; replace P1 := Lib.hid P1; replace F1 := Lib.hid F1
        go_enter Try.func28, Try.ntmps28
        go_wp2_with fail
        go_ret
        exact ⟨rfl, F1.out⟩
    · have d1 := decide_eq_false c1
      obtain rfl : V = false := by rw [HE, d1]; rfl
      clear HE
      replace ih := Lib.hid ih; replace hl := Lib.hid hl; replace hop := Lib.hid hop; replace hlo := Lib.hid hlo; replace hhi := Lib.hid hhi; replace hK := Lib.hid hK; replace hV := Lib.hid hV; replace hs := Lib.hid hs; replace P1 := Lib.hid P1; replace F1 := Lib.hid F1
      go_enter Try.func28, Try.ntmps28
      go_wp2_with fail
      go_ret
      exact ⟨rfl, F1.out⟩
end Go.Proofs.Ytehmfnpiidcbpaa
