import Derived.Test.YtehmfnpiidcbpaaGM1
namespace Go.Proofs.Ytehmfnpiidcbpaa
open Go.RowKit
set_option linter.unusedVariables false
set_option linter.unusedSimpArgs false
set_option maxHeartbeats 16000000
set_option maxRecDepth 100000
/-! ### The reference's shaped, Check -/
theorem take_all_sh (ks : List Nd) (i : Nat) (h : i < ks.length) : (ks.take (i + 1)).all Nd.sh = ((ks.take i).all Nd.sh && ks[i].sh) := by
  rw [List.take_succ_eq_append_getElem h, List.all_append]; simp
theorem shaped_any : ∀ (M : Nat) (n : Nd) (w : World) (v : Value), n.nodes ≤ M → M ≤ 100000 → NI w n v →
    Calls Try.prog 42 #[v] w fun e w' => e = .returned (.bool n.sh) ∧ Fr [] w w'
  | 0, n, w, v, hN, _, _ => by have := nodes_pos n; omega
  | M + 1, n, w, v, hN, hM, hv => by
    have ih := fun (i : Nat) (hi : i < n.kids.length) W s (h : NI W n.kids[i] s) => shaped_any M n.kids[i] W s (by have := kid_lt hi; omega) (by omega) h
    obtain ⟨o, cap, rfl, hl⟩ := hv.open
    have e3 := nodesL_len n.kids
    have e4 := n.nodes_eq
    have S0 := sh_val0 n
    have S1' := sh_val n
    obtain ⟨op, hop⟩ : ∃ x, n.op = x := ⟨_, rfl⟩
    obtain ⟨lo, hlo⟩ : ∃ x, n.lo = x := ⟨_, rfl⟩
    obtain ⟨hi, hhi⟩ : ∃ x, n.hi = x := ⟨_, rfl⟩
    obtain ⟨K, hK⟩ : ∃ x, n.kids.length = x := ⟨_, rfl⟩
    obtain ⟨A, hA⟩ : ∃ x, n.kids.all Nd.sh = x := ⟨_, rfl⟩
    obtain ⟨V, hV⟩ : ∃ x, n.sh = x := ⟨_, rfl⟩
    rw [hop, hlo, hhi, hK] at S0 ⊢
    rw [hop, hlo, hhi, hK] at S1'
    rw [hA] at S1'
    rw [hV] at S0 S1' ⊢
    have hKb : K ≤ 100000 := by omega
    clear e3 e4 hv hN hM
    have S1 : op ≠ 0 → V = (decide (lo = 0) && (decide (hi = 0) && (kidsOk op K && A))) := S1'
    clear S1'
    obtain ⟨w1, hw1⟩ : ∃ x, w.alloc (.cells #[.int .i64 op, .int .i64 lo, .int .i64 hi, .slice o K cap] 40) = x := ⟨_, rfl⟩
    have P1 := Pt.newA w 40 #[.int .i64 op, .int .i64 lo, .int .i64 hi, .slice o K cap]
    rw [hw1] at P1
    have F1 : Fr [] w w1 := by rw [← hw1]; exact (Fr.refl [] w).alloc _
    obtain ⟨b1, hb1⟩ : ∃ x, w.heap.size = x := ⟨_, rfl⟩
    rw [hb1] at P1
    have k1 := P1.cell
    replace ih := Lib.hid ih; replace hl := Lib.hid hl; replace hop := Lib.hid hop; replace hlo := Lib.hid hlo; replace hhi := Lib.hid hhi; replace hK := Lib.hid hK; replace hA := Lib.hid hA; replace hV := Lib.hid hV
    by_cases h0 : op = 0
    · subst h0
      replace S0 := S0 rfl
      clear S1
      by_cases c1 : K = 0
      · subst c1
        by_cases c2 : lo ≤ hi
        · by_cases c3 : -1000000000000000 ≤ lo
          · by_cases c4 : hi ≤ 1000000000000000
            · as_aux_lemma =>
              obtain rfl : V = true := by rw [S0]; simp [c2, c3, c4]
              clear S0
              have d2 := decide_eq_true c2
              have d3 := decide_eq_true c3
              have d4 := decide_eq_true c4
              replace P1 := Lib.hid P1; replace F1 := Lib.hid F1
              go_enter Try.func42, Try.ntmps42
              go_wp2_with fail
              go_ret
              exact ⟨rfl, F1.out⟩
            · as_aux_lemma =>
              obtain rfl : V = false := by rw [S0]; simp [c2, c3, c4]
              clear S0
              have d2 := decide_eq_true c2
              have d3 := decide_eq_true c3
              have d4 := decide_eq_false c4
              replace P1 := Lib.hid P1; replace F1 := Lib.hid F1
              go_enter Try.func42, Try.ntmps42
              go_wp2_with fail
              go_ret
              exact ⟨rfl, F1.out⟩
          · as_aux_lemma =>
            obtain rfl : V = false := by rw [S0]; simp [c2, c3]
            clear S0
            have d2 := decide_eq_true c2
            have d3 := decide_eq_false c3
            replace P1 := Lib.hid P1; replace F1 := Lib.hid F1
            go_enter Try.func42, Try.ntmps42
            go_wp2_with fail
            go_ret
            exact ⟨rfl, F1.out⟩
        · as_aux_lemma =>
          obtain rfl : V = false := by rw [S0]; simp [c2]
          clear S0
          have d2 := decide_eq_false c2
          replace P1 := Lib.hid P1; replace F1 := Lib.hid F1
          go_enter Try.func42, Try.ntmps42
          go_wp2_with fail
          go_ret
          exact ⟨rfl, F1.out⟩
      · as_aux_lemma =>
        obtain rfl : V = false := by rw [S0]; simp [c1]
        clear S0
        have z1 : ((K : Int) == 0) = false := by simp; omega
        have z2 : (K == 0) = false := by simpa using c1
        replace P1 := Lib.hid P1; replace F1 := Lib.hid F1
        go_enter Try.func42, Try.ntmps42
        go_wp2_with fail
        go_ret
        exact ⟨rfl, F1.out⟩
    have S2 := S1 h0
    clear S0 S1
    have y0 : (op == 0) = false := by simpa using h0
    by_cases h1 : op = 1
    · subst h1
      clear h0 y0 
      by_cases cK : 2 ≤ K
      · by_cases hlo0 : lo = 0
        · by_cases hhi0 : hi = 0
          · as_aux_lemma =>
            have VA : V = A := by rw [S2, kidsOk_12 _ _ (.inl rfl), decide_eq_true cK, hlo0, hhi0]; rfl
            clear S2
            subst hlo0 hhi0
            have z1 : ¬ (K : Int) < 2 := by omega
            have z2 : ¬ K < 2 := by omega
            replace P1 := Lib.hid P1; replace F1 := Lib.hid F1; replace VA := Lib.hid VA
            go_enter Try.func42, Try.ntmps42
            go_wp2_with fail
            go_loopg [4] (K + 1) (fun k v4 wr => ∃ i : Nat, i ≤ K ∧ k + i = K + 1 ∧ v4 = .int .i64 i ∧ (n.kids.take i).all Nd.sh = true ∧ Fr [] w1 wr)
            case atStart => exact ⟨0, by omega, by omega, rfl, rfl, Fr.refl _ _⟩
            case round =>
              obtain ⟨i, hi2, hk, rfl, hno, hF1⟩ := hrel
              obtain ⟨wi, rfl⟩ : ∃ x : World, x = wr := ⟨_, rfl⟩
              have hF := F1.out.trans hF1
              have k3 := (hF1.pt P1.out (by simp)).cell
              by_cases hlt : i < K
              · have hltI : (i : Int) < K := by omega
                have hil : i < n.kids.length := by have := hK.out; omega
                have hsu := take_all_sh n.kids i hil
                rw [hno] at hsu
                obtain ⟨B, off, s, hoB, hB, _, a1, a2, a3, a4, hkid⟩ := hl.out (i) hil
                have x1 := hF.cell (p := ⟨B, off + (i) * 4, none⟩) hB (by simp)
                have x2 := hF.cell (p := ⟨B, off + (i) * 4 + 1, none⟩) hB (by simp)
                have x3 := hF.cell (p := ⟨B, off + (i) * 4 + 2, none⟩) hB (by simp)
                have x4 := hF.cell (p := ⟨B, off + (i) * 4 + 3, none⟩) hB (by simp)
                rw [a1] at x1
                rw [a2] at x2
                rw [a3] at x3
                rw [a4] at x4
                clear a1 a2 a3 a4
                subst hoB
                obtain ⟨so, sL, sc, rfl⟩ := hkid.sl
                obtain ⟨kop, hkop⟩ : ∃ x, n.kids[i].op = x := ⟨_, rfl⟩
                obtain ⟨klo, hklo⟩ : ∃ x, n.kids[i].lo = x := ⟨_, rfl⟩
                obtain ⟨khi, hkhi⟩ : ∃ x, n.kids[i].hi = x := ⟨_, rfl⟩
                rw [hkop] at x1 hkid
                rw [hklo] at x2 hkid
                rw [hkhi] at x3 hkid
                have C := ih.out i hil wi _ (hkid.go hF)
                obtain ⟨z, hz⟩ : ∃ z, n.kids[i].sh = z := ⟨_, rfl⟩
                rw [hz] at C hsu
                replace hF := Lib.hid hF; replace hF1 := Lib.hid hF1; replace hkop := Lib.hid hkop; replace hklo := Lib.hid hklo; replace hkhi := Lib.hid hkhi; replace hkid := Lib.hid hkid; replace C := Lib.hid C; replace hno := Lib.hid hno; replace hsu := Lib.hid hsu; replace hz := Lib.hid hz
                go_wp2_with fail
                refine (C.out).mono ?_
                rintro e w3 ⟨rfl, f3⟩
                have F3 := hF1.out.trans f3
                have FF := hF.out.trans f3
                replace f3 := Lib.hid f3; replace F3 := Lib.hid F3; replace FF := Lib.hid FF
                cases z
                · have hv : V = false := by
                    rw [VA.out, ← hA.out, ← Bool.not_eq_true, List.all_eq_true]; intro h; have := h _ (List.getElem_mem hil); rw [hz.out] at this; cases this
                  replace hv := Lib.hid hv
                  go_wp2_with fail
                  go_ret
                  exact ⟨ret_b hv.out.symm, FF.out⟩
                · go_wp2_with fail
                  go_roundg (gk - 1)
                  case measure => omega
                  case rel => exact ⟨i + 1, by omega, by omega, by go_num, by rw [hsu.out]; rfl, F3.out⟩
              · have hik : i = K := by omega
                have hltI : ¬ (i : Int) < K := by omega
                have htk : n.kids.take i = n.kids := List.take_of_length_le (by have := hK.out; omega)
                rw [htk] at hno
                have hv : V = true := by rw [VA.out, ← hA.out]; exact hno
                replace hF := Lib.hid hF; replace hF1 := Lib.hid hF1; replace htk := Lib.hid htk; replace hno := Lib.hid hno; replace hv := Lib.hid hv; replace hik := Lib.hid hik
                go_wp2_with fail
                go_ret
                exact ⟨ret_b hv.out.symm, hF.out⟩
          · as_aux_lemma =>
            obtain rfl : V = false := by rw [S2]; simp [hhi0]
            clear S2
            subst hlo0
            have x1 : (hi == 0) = false := by simpa using hhi0
            have x2 : (hi != 0) = true := by simpa using hhi0
            have z1 : ¬ (K : Int) < 2 := by omega
            have z2 : ¬ K < 2 := by omega
            replace P1 := Lib.hid P1; replace F1 := Lib.hid F1
            go_enter Try.func42, Try.ntmps42
            go_wp2_with fail
            go_ret
            exact ⟨rfl, F1.out⟩
        · as_aux_lemma =>
          obtain rfl : V = false := by rw [S2]; simp [hlo0]
          clear S2
          have x1 : (lo == 0) = false := by simpa using hlo0
          have x2 : (lo != 0) = true := by simpa using hlo0
          have z1 : ¬ (K : Int) < 2 := by omega
          have z2 : ¬ K < 2 := by omega
          replace P1 := Lib.hid P1; replace F1 := Lib.hid F1
          go_enter Try.func42, Try.ntmps42
          go_wp2_with fail
          go_ret
          exact ⟨rfl, F1.out⟩
      · as_aux_lemma =>
        obtain rfl : V = false := by rw [S2, kidsOk_12 _ _ (.inl rfl), decide_eq_false cK]; simp
        clear S2
        have z1 : (K : Int) < 2 := by omega
        have z2 : K < 2 := by omega
        replace P1 := Lib.hid P1; replace F1 := Lib.hid F1
        go_enter Try.func42, Try.ntmps42
        go_wp2_with fail
        go_ret
        exact ⟨rfl, F1.out⟩
    have y1 : (op == 1) = false := by simpa using h1
    by_cases h2 : op = 2
    · subst h2
      clear h0 y0 h1 y1
      by_cases cK : 2 ≤ K
      · by_cases hlo0 : lo = 0
        · by_cases hhi0 : hi = 0
          · as_aux_lemma =>
            have VA : V = A := by rw [S2, kidsOk_12 _ _ (.inr rfl), decide_eq_true cK, hlo0, hhi0]; rfl
            clear S2
            subst hlo0 hhi0
            have z1 : ¬ (K : Int) < 2 := by omega
            have z2 : ¬ K < 2 := by omega
            replace P1 := Lib.hid P1; replace F1 := Lib.hid F1; replace VA := Lib.hid VA
            go_enter Try.func42, Try.ntmps42
            go_wp2_with fail
            go_loopg [4] (K + 1) (fun k v4 wr => ∃ i : Nat, i ≤ K ∧ k + i = K + 1 ∧ v4 = .int .i64 i ∧ (n.kids.take i).all Nd.sh = true ∧ Fr [] w1 wr)
            case atStart => exact ⟨0, by omega, by omega, rfl, rfl, Fr.refl _ _⟩
            case round =>
              obtain ⟨i, hi2, hk, rfl, hno, hF1⟩ := hrel
              obtain ⟨wi, rfl⟩ : ∃ x : World, x = wr := ⟨_, rfl⟩
              have hF := F1.out.trans hF1
              have k3 := (hF1.pt P1.out (by simp)).cell
              by_cases hlt : i < K
              · have hltI : (i : Int) < K := by omega
                have hil : i < n.kids.length := by have := hK.out; omega
                have hsu := take_all_sh n.kids i hil
                rw [hno] at hsu
                obtain ⟨B, off, s, hoB, hB, _, a1, a2, a3, a4, hkid⟩ := hl.out (i) hil
                have x1 := hF.cell (p := ⟨B, off + (i) * 4, none⟩) hB (by simp)
                have x2 := hF.cell (p := ⟨B, off + (i) * 4 + 1, none⟩) hB (by simp)
                have x3 := hF.cell (p := ⟨B, off + (i) * 4 + 2, none⟩) hB (by simp)
                have x4 := hF.cell (p := ⟨B, off + (i) * 4 + 3, none⟩) hB (by simp)
                rw [a1] at x1
                rw [a2] at x2
                rw [a3] at x3
                rw [a4] at x4
                clear a1 a2 a3 a4
                subst hoB
                obtain ⟨so, sL, sc, rfl⟩ := hkid.sl
                obtain ⟨kop, hkop⟩ : ∃ x, n.kids[i].op = x := ⟨_, rfl⟩
                obtain ⟨klo, hklo⟩ : ∃ x, n.kids[i].lo = x := ⟨_, rfl⟩
                obtain ⟨khi, hkhi⟩ : ∃ x, n.kids[i].hi = x := ⟨_, rfl⟩
                rw [hkop] at x1 hkid
                rw [hklo] at x2 hkid
                rw [hkhi] at x3 hkid
                have C := ih.out i hil wi _ (hkid.go hF)
                obtain ⟨z, hz⟩ : ∃ z, n.kids[i].sh = z := ⟨_, rfl⟩
                rw [hz] at C hsu
                replace hF := Lib.hid hF; replace hF1 := Lib.hid hF1; replace hkop := Lib.hid hkop; replace hklo := Lib.hid hklo; replace hkhi := Lib.hid hkhi; replace hkid := Lib.hid hkid; replace C := Lib.hid C; replace hno := Lib.hid hno; replace hsu := Lib.hid hsu; replace hz := Lib.hid hz
                go_wp2_with fail
                refine (C.out).mono ?_
                rintro e w3 ⟨rfl, f3⟩
                have F3 := hF1.out.trans f3
                have FF := hF.out.trans f3
                replace f3 := Lib.hid f3; replace F3 := Lib.hid F3; replace FF := Lib.hid FF
                cases z
                · have hv : V = false := by
                    rw [VA.out, ← hA.out, ← Bool.not_eq_true, List.all_eq_true]; intro h; have := h _ (List.getElem_mem hil); rw [hz.out] at this; cases this
                  replace hv := Lib.hid hv
                  go_wp2_with fail
                  go_ret
                  exact ⟨ret_b hv.out.symm, FF.out⟩
                · go_wp2_with fail
                  go_roundg (gk - 1)
                  case measure => omega
                  case rel => exact ⟨i + 1, by omega, by omega, by go_num, by rw [hsu.out]; rfl, F3.out⟩
              · have hik : i = K := by omega
                have hltI : ¬ (i : Int) < K := by omega
                have htk : n.kids.take i = n.kids := List.take_of_length_le (by have := hK.out; omega)
                rw [htk] at hno
                have hv : V = true := by rw [VA.out, ← hA.out]; exact hno
                replace hF := Lib.hid hF; replace hF1 := Lib.hid hF1; replace htk := Lib.hid htk; replace hno := Lib.hid hno; replace hv := Lib.hid hv; replace hik := Lib.hid hik
                go_wp2_with fail
                go_ret
                exact ⟨ret_b hv.out.symm, hF.out⟩
          · as_aux_lemma =>
            obtain rfl : V = false := by rw [S2]; simp [hhi0]
            clear S2
            subst hlo0
            have x1 : (hi == 0) = false := by simpa using hhi0
            have x2 : (hi != 0) = true := by simpa using hhi0
            have z1 : ¬ (K : Int) < 2 := by omega
            have z2 : ¬ K < 2 := by omega
            replace P1 := Lib.hid P1; replace F1 := Lib.hid F1
            go_enter Try.func42, Try.ntmps42
            go_wp2_with fail
            go_ret
            exact ⟨rfl, F1.out⟩
        · as_aux_lemma =>
          obtain rfl : V = false := by rw [S2]; simp [hlo0]
          clear S2
          have x1 : (lo == 0) = false := by simpa using hlo0
          have x2 : (lo != 0) = true := by simpa using hlo0
          have z1 : ¬ (K : Int) < 2 := by omega
          have z2 : ¬ K < 2 := by omega
          replace P1 := Lib.hid P1; replace F1 := Lib.hid F1
          go_enter Try.func42, Try.ntmps42
          go_wp2_with fail
          go_ret
          exact ⟨rfl, F1.out⟩
      · as_aux_lemma =>
        obtain rfl : V = false := by rw [S2, kidsOk_12 _ _ (.inr rfl), decide_eq_false cK]; simp
        clear S2
        have z1 : (K : Int) < 2 := by omega
        have z2 : K < 2 := by omega
        replace P1 := Lib.hid P1; replace F1 := Lib.hid F1
        go_enter Try.func42, Try.ntmps42
        go_wp2_with fail
        go_ret
        exact ⟨rfl, F1.out⟩
    have y2 : (op == 2) = false := by simpa using h2
    by_cases h3 : op = 3
    · subst h3
      clear h0 y0 h1 y1 h2 y2
      by_cases cK : K = 2
      · by_cases hlo0 : lo = 0
        · by_cases hhi0 : hi = 0
          · as_aux_lemma =>
            have VA : V = A := by rw [S2, kidsOk_3, decide_eq_true cK, hlo0, hhi0]; rfl
            clear S2
            subst hlo0 hhi0
            subst cK
            replace P1 := Lib.hid P1; replace F1 := Lib.hid F1; replace VA := Lib.hid VA
            go_enter Try.func42, Try.ntmps42
            go_wp2_with fail
            go_loopg [4] (2 + 1) (fun k v4 wr => ∃ i : Nat, i ≤ 2 ∧ k + i = 2 + 1 ∧ v4 = .int .i64 i ∧ (n.kids.take i).all Nd.sh = true ∧ Fr [] w1 wr)
            case atStart => exact ⟨0, by omega, by omega, rfl, rfl, Fr.refl _ _⟩
            case round =>
              obtain ⟨i, hi2, hk, rfl, hno, hF1⟩ := hrel
              obtain ⟨wi, rfl⟩ : ∃ x : World, x = wr := ⟨_, rfl⟩
              have hF := F1.out.trans hF1
              have k3 := (hF1.pt P1.out (by simp)).cell
              by_cases hlt : i < 2
              · have hltI : (i : Int) < 2 := by omega
                have hil : i < n.kids.length := by have := hK.out; omega
                have hsu := take_all_sh n.kids i hil
                rw [hno] at hsu
                obtain ⟨B, off, s, hoB, hB, _, a1, a2, a3, a4, hkid⟩ := hl.out (i) hil
                have x1 := hF.cell (p := ⟨B, off + (i) * 4, none⟩) hB (by simp)
                have x2 := hF.cell (p := ⟨B, off + (i) * 4 + 1, none⟩) hB (by simp)
                have x3 := hF.cell (p := ⟨B, off + (i) * 4 + 2, none⟩) hB (by simp)
                have x4 := hF.cell (p := ⟨B, off + (i) * 4 + 3, none⟩) hB (by simp)
                rw [a1] at x1
                rw [a2] at x2
                rw [a3] at x3
                rw [a4] at x4
                clear a1 a2 a3 a4
                subst hoB
                obtain ⟨so, sL, sc, rfl⟩ := hkid.sl
                obtain ⟨kop, hkop⟩ : ∃ x, n.kids[i].op = x := ⟨_, rfl⟩
                obtain ⟨klo, hklo⟩ : ∃ x, n.kids[i].lo = x := ⟨_, rfl⟩
                obtain ⟨khi, hkhi⟩ : ∃ x, n.kids[i].hi = x := ⟨_, rfl⟩
                rw [hkop] at x1 hkid
                rw [hklo] at x2 hkid
                rw [hkhi] at x3 hkid
                have C := ih.out i hil wi _ (hkid.go hF)
                obtain ⟨z, hz⟩ : ∃ z, n.kids[i].sh = z := ⟨_, rfl⟩
                rw [hz] at C hsu
                replace hF := Lib.hid hF; replace hF1 := Lib.hid hF1; replace hkop := Lib.hid hkop; replace hklo := Lib.hid hklo; replace hkhi := Lib.hid hkhi; replace hkid := Lib.hid hkid; replace C := Lib.hid C; replace hno := Lib.hid hno; replace hsu := Lib.hid hsu; replace hz := Lib.hid hz
                go_wp2_with fail
                refine (C.out).mono ?_
                rintro e w3 ⟨rfl, f3⟩
                have F3 := hF1.out.trans f3
                have FF := hF.out.trans f3
                replace f3 := Lib.hid f3; replace F3 := Lib.hid F3; replace FF := Lib.hid FF
                cases z
                · have hv : V = false := by
                    rw [VA.out, ← hA.out, ← Bool.not_eq_true, List.all_eq_true]; intro h; have := h _ (List.getElem_mem hil); rw [hz.out] at this; cases this
                  replace hv := Lib.hid hv
                  go_wp2_with fail
                  go_ret
                  exact ⟨ret_b hv.out.symm, FF.out⟩
                · go_wp2_with fail
                  go_roundg (gk - 1)
                  case measure => omega
                  case rel => exact ⟨i + 1, by omega, by omega, by go_num, by rw [hsu.out]; rfl, F3.out⟩
              · have hik : i = 2 := by omega
                have hltI : ¬ (i : Int) < 2 := by omega
                have htk : n.kids.take i = n.kids := List.take_of_length_le (by have := hK.out; omega)
                rw [htk] at hno
                have hv : V = true := by rw [VA.out, ← hA.out]; exact hno
                replace hF := Lib.hid hF; replace hF1 := Lib.hid hF1; replace htk := Lib.hid htk; replace hno := Lib.hid hno; replace hv := Lib.hid hv; replace hik := Lib.hid hik
                go_wp2_with fail
                go_ret
                exact ⟨ret_b hv.out.symm, hF.out⟩
          · as_aux_lemma =>
            obtain rfl : V = false := by rw [S2]; simp [hhi0]
            clear S2
            subst hlo0
            have x1 : (hi == 0) = false := by simpa using hhi0
            have x2 : (hi != 0) = true := by simpa using hhi0
            subst cK
            replace P1 := Lib.hid P1; replace F1 := Lib.hid F1
            go_enter Try.func42, Try.ntmps42
            go_wp2_with fail
            go_ret
            exact ⟨rfl, F1.out⟩
        · as_aux_lemma =>
          obtain rfl : V = false := by rw [S2]; simp [hlo0]
          clear S2
          have x1 : (lo == 0) = false := by simpa using hlo0
          have x2 : (lo != 0) = true := by simpa using hlo0
          subst cK
          replace P1 := Lib.hid P1; replace F1 := Lib.hid F1
          go_enter Try.func42, Try.ntmps42
          go_wp2_with fail
          go_ret
          exact ⟨rfl, F1.out⟩
      · as_aux_lemma =>
        obtain rfl : V = false := by rw [S2, kidsOk_3, decide_eq_false cK]; simp
        clear S2
        have z1 : ((K : Int) == 2) = false := by simp; omega
        have z2 : (K == 2) = false := by simpa using cK
        have z3 : ((K : Int) != 2) = true := by simp; omega
        have z4 : (K != 2) = true := by simpa using cK
        replace P1 := Lib.hid P1; replace F1 := Lib.hid F1
        go_enter Try.func42, Try.ntmps42
        go_wp2_with fail
        go_ret
        exact ⟨rfl, F1.out⟩
    have y3 : (op == 3) = false := by simpa using h3
    by_cases h4 : op = 4
    · subst h4
      clear h0 y0 h1 y1 h2 y2 h3 y3
      by_cases cK : K = 0
      · by_cases hlo0 : lo = 0
        · by_cases hhi0 : hi = 0
          · as_aux_lemma =>
            have VA : V = A := by rw [S2, kidsOk_4, decide_eq_true cK, hlo0, hhi0]; rfl
            clear S2
            subst hlo0 hhi0
            subst cK
            replace P1 := Lib.hid P1; replace F1 := Lib.hid F1; replace VA := Lib.hid VA
            go_enter Try.func42, Try.ntmps42
            go_wp2_with fail
            go_loopg [4] (0 + 1) (fun k v4 wr => ∃ i : Nat, i ≤ 0 ∧ k + i = 0 + 1 ∧ v4 = .int .i64 i ∧ (n.kids.take i).all Nd.sh = true ∧ Fr [] w1 wr)
            case atStart => exact ⟨0, by omega, by omega, rfl, rfl, Fr.refl _ _⟩
            case round =>
              obtain ⟨i, hi2, hk, rfl, hno, hF1⟩ := hrel
              obtain ⟨wi, rfl⟩ : ∃ x : World, x = wr := ⟨_, rfl⟩
              have hF := F1.out.trans hF1
              have k3 := (hF1.pt P1.out (by simp)).cell
              by_cases hlt : i < 0
              · exact absurd hlt (Nat.not_lt_zero _)
              · have hik : i = 0 := by omega
                have hltI : ¬ (i : Int) < 0 := by omega
                have htk : n.kids.take i = n.kids := List.take_of_length_le (by have := hK.out; omega)
                rw [htk] at hno
                have hv : V = true := by rw [VA.out, ← hA.out]; exact hno
                replace hF := Lib.hid hF; replace hF1 := Lib.hid hF1; replace htk := Lib.hid htk; replace hno := Lib.hid hno; replace hv := Lib.hid hv; replace hik := Lib.hid hik
                go_wp2_with fail
                go_ret
                exact ⟨ret_b hv.out.symm, hF.out⟩
          · as_aux_lemma =>
            obtain rfl : V = false := by rw [S2]; simp [hhi0]
            clear S2
            subst hlo0
            have x1 : (hi == 0) = false := by simpa using hhi0
            have x2 : (hi != 0) = true := by simpa using hhi0
            subst cK
            replace P1 := Lib.hid P1; replace F1 := Lib.hid F1
            go_enter Try.func42, Try.ntmps42
            go_wp2_with fail
            go_ret
            exact ⟨rfl, F1.out⟩
        · as_aux_lemma =>
          obtain rfl : V = false := by rw [S2]; simp [hlo0]
          clear S2
          have x1 : (lo == 0) = false := by simpa using hlo0
          have x2 : (lo != 0) = true := by simpa using hlo0
          subst cK
          replace P1 := Lib.hid P1; replace F1 := Lib.hid F1
          go_enter Try.func42, Try.ntmps42
          go_wp2_with fail
          go_ret
          exact ⟨rfl, F1.out⟩
      · as_aux_lemma =>
        obtain rfl : V = false := by rw [S2, kidsOk_4, decide_eq_false cK]; simp
        clear S2
        have z1 : ((K : Int) == 0) = false := by simp; omega
        have z2 : (K == 0) = false := by simpa using cK
        have z3 : ((K : Int) != 0) = true := by simp; omega
        have z4 : (K != 0) = true := by simpa using cK
        replace P1 := Lib.hid P1; replace F1 := Lib.hid F1
        go_enter Try.func42, Try.ntmps42
        go_wp2_with fail
        go_ret
        exact ⟨rfl, F1.out⟩
    have y4 : (op == 4) = false := by simpa using h4
    by_cases h5 : op = 5
    · subst h5
      clear h0 y0 h1 y1 h2 y2 h3 y3 h4 y4
      by_cases cK : K = 1
      · by_cases hlo0 : lo = 0
        · by_cases hhi0 : hi = 0
          · as_aux_lemma =>
            have VA : V = A := by rw [S2, kidsOk_5, decide_eq_true cK, hlo0, hhi0]; rfl
            clear S2
            subst hlo0 hhi0
            subst cK
            replace P1 := Lib.hid P1; replace F1 := Lib.hid F1; replace VA := Lib.hid VA
            go_enter Try.func42, Try.ntmps42
            go_wp2_with fail
            go_loopg [4] (1 + 1) (fun k v4 wr => ∃ i : Nat, i ≤ 1 ∧ k + i = 1 + 1 ∧ v4 = .int .i64 i ∧ (n.kids.take i).all Nd.sh = true ∧ Fr [] w1 wr)
            case atStart => exact ⟨0, by omega, by omega, rfl, rfl, Fr.refl _ _⟩
            case round =>
              obtain ⟨i, hi2, hk, rfl, hno, hF1⟩ := hrel
              obtain ⟨wi, rfl⟩ : ∃ x : World, x = wr := ⟨_, rfl⟩
              have hF := F1.out.trans hF1
              have k3 := (hF1.pt P1.out (by simp)).cell
              by_cases hlt : i < 1
              · have hltI : (i : Int) < 1 := by omega
                have hil : i < n.kids.length := by have := hK.out; omega
                have hsu := take_all_sh n.kids i hil
                rw [hno] at hsu
                obtain ⟨B, off, s, hoB, hB, _, a1, a2, a3, a4, hkid⟩ := hl.out (i) hil
                have x1 := hF.cell (p := ⟨B, off + (i) * 4, none⟩) hB (by simp)
                have x2 := hF.cell (p := ⟨B, off + (i) * 4 + 1, none⟩) hB (by simp)
                have x3 := hF.cell (p := ⟨B, off + (i) * 4 + 2, none⟩) hB (by simp)
                have x4 := hF.cell (p := ⟨B, off + (i) * 4 + 3, none⟩) hB (by simp)
                rw [a1] at x1
                rw [a2] at x2
                rw [a3] at x3
                rw [a4] at x4
                clear a1 a2 a3 a4
                subst hoB
                obtain ⟨so, sL, sc, rfl⟩ := hkid.sl
                obtain ⟨kop, hkop⟩ : ∃ x, n.kids[i].op = x := ⟨_, rfl⟩
                obtain ⟨klo, hklo⟩ : ∃ x, n.kids[i].lo = x := ⟨_, rfl⟩
                obtain ⟨khi, hkhi⟩ : ∃ x, n.kids[i].hi = x := ⟨_, rfl⟩
                rw [hkop] at x1 hkid
                rw [hklo] at x2 hkid
                rw [hkhi] at x3 hkid
                have C := ih.out i hil wi _ (hkid.go hF)
                obtain ⟨z, hz⟩ : ∃ z, n.kids[i].sh = z := ⟨_, rfl⟩
                rw [hz] at C hsu
                replace hF := Lib.hid hF; replace hF1 := Lib.hid hF1; replace hkop := Lib.hid hkop; replace hklo := Lib.hid hklo; replace hkhi := Lib.hid hkhi; replace hkid := Lib.hid hkid; replace C := Lib.hid C; replace hno := Lib.hid hno; replace hsu := Lib.hid hsu; replace hz := Lib.hid hz
                go_wp2_with fail
                refine (C.out).mono ?_
                rintro e w3 ⟨rfl, f3⟩
                have F3 := hF1.out.trans f3
                have FF := hF.out.trans f3
                replace f3 := Lib.hid f3; replace F3 := Lib.hid F3; replace FF := Lib.hid FF
                cases z
                · have hv : V = false := by
                    rw [VA.out, ← hA.out, ← Bool.not_eq_true, List.all_eq_true]; intro h; have := h _ (List.getElem_mem hil); rw [hz.out] at this; cases this
                  replace hv := Lib.hid hv
                  go_wp2_with fail
                  go_ret
                  exact ⟨ret_b hv.out.symm, FF.out⟩
                · go_wp2_with fail
                  go_roundg (gk - 1)
                  case measure => omega
                  case rel => exact ⟨i + 1, by omega, by omega, by go_num, by rw [hsu.out]; rfl, F3.out⟩
              · have hik : i = 1 := by omega
                have hltI : ¬ (i : Int) < 1 := by omega
                have htk : n.kids.take i = n.kids := List.take_of_length_le (by have := hK.out; omega)
                rw [htk] at hno
                have hv : V = true := by rw [VA.out, ← hA.out]; exact hno
                replace hF := Lib.hid hF; replace hF1 := Lib.hid hF1; replace htk := Lib.hid htk; replace hno := Lib.hid hno; replace hv := Lib.hid hv; replace hik := Lib.hid hik
                go_wp2_with fail
                go_ret
                exact ⟨ret_b hv.out.symm, hF.out⟩
          · as_aux_lemma =>
            obtain rfl : V = false := by rw [S2]; simp [hhi0]
            clear S2
            subst hlo0
            have x1 : (hi == 0) = false := by simpa using hhi0
            have x2 : (hi != 0) = true := by simpa using hhi0
            subst cK
            replace P1 := Lib.hid P1; replace F1 := Lib.hid F1
            go_enter Try.func42, Try.ntmps42
            go_wp2_with fail
            go_ret
            exact ⟨rfl, F1.out⟩
        · as_aux_lemma =>
          obtain rfl : V = false := by rw [S2]; simp [hlo0]
          clear S2
          have x1 : (lo == 0) = false := by simpa using hlo0
          have x2 : (lo != 0) = true := by simpa using hlo0
          subst cK
          replace P1 := Lib.hid P1; replace F1 := Lib.hid F1
          go_enter Try.func42, Try.ntmps42
          go_wp2_with fail
          go_ret
          exact ⟨rfl, F1.out⟩
      · as_aux_lemma =>
        obtain rfl : V = false := by rw [S2, kidsOk_5, decide_eq_false cK]; simp
        clear S2
        have z1 : ((K : Int) == 1) = false := by simp; omega
        have z2 : (K == 1) = false := by simpa using cK
        have z3 : ((K : Int) != 1) = true := by simp; omega
        have z4 : (K != 1) = true := by simpa using cK
        replace P1 := Lib.hid P1; replace F1 := Lib.hid F1
        go_enter Try.func42, Try.ntmps42
        go_wp2_with fail
        go_ret
        exact ⟨rfl, F1.out⟩
    have y5 : (op == 5) = false := by simpa using h5
    obtain rfl : V = false := by rw [S2, kidsOk_other op K h1 h2 h3 h4 h5]; simp
    clear S2 h0 h1 h2 h3 h4 h5
    replace P1 := Lib.hid P1; replace F1 := Lib.hid F1
    go_enter Try.func42, Try.ntmps42
    go_wp2_with fail
    go_ret
    exact ⟨rfl, F1.out⟩
theorem Check_any (n : Nd) (w : World) (v : Value) (hN : n.nodes ≤ 100000) (hv : NI w n v) :
    Calls Try.prog 25 #[v] w fun e w' => e = .returned (.int .i64 (chkF n)) ∧ Fr [] w w' := by
  have S := fun W (f : Fr [] w W) => rsize_any n.nodes n W v (Nat.le_refl _) hN (hv.go f)
  have F := fun W (f : Fr [] w W) => shaped_any n.nodes n W v (Nat.le_refl _) hN (hv.go f)
  have q1 := @chk_lim n
  have q2 := @chk_no n
  have q3 := @chk_ok n
  obtain ⟨o, cap, rfl, hl⟩ := hv.open
  clear hl
  obtain ⟨op, hop⟩ : ∃ x, n.op = x := ⟨_, rfl⟩
  obtain ⟨lo, hlo⟩ : ∃ x, n.lo = x := ⟨_, rfl⟩
  obtain ⟨hi, hhi⟩ : ∃ x, n.hi = x := ⟨_, rfl⟩
  obtain ⟨K, hK⟩ : ∃ x, n.kids.length = x := ⟨_, rfl⟩
  rw [hop, hlo, hhi, hK] at S F ⊢
  obtain ⟨T, hT⟩ : ∃ x, n.nodes = x := ⟨_, rfl⟩
  obtain ⟨D, hD⟩ : ∃ x, n.deep = x := ⟨_, rfl⟩
  obtain ⟨V, hV⟩ : ∃ x, n.sh = x := ⟨_, rfl⟩
  obtain ⟨C, hC⟩ : ∃ x, chkF n = x := ⟨_, rfl⟩
  rw [hT] at hN q1 q2 q3 S
  rw [hD] at q1 q2 q3 S
  rw [hV] at q2 q3 F
  rw [hC] at q1 q2 q3 ⊢
  clear hv
  obtain ⟨w1, hw1⟩ : ∃ x, w.alloc (.cells #[.int .i64 op, .int .i64 lo, .int .i64 hi, .slice o K cap] 40) = x := ⟨_, rfl⟩
  have P1 := Pt.newA w 40 #[.int .i64 op, .int .i64 lo, .int .i64 hi, .slice o K cap]
  rw [hw1] at P1
  have F1 : Fr [] w w1 := by rw [← hw1]; exact (Fr.refl [] w).alloc _
  obtain ⟨b1, hb1⟩ : ∃ x, w.heap.size = x := ⟨_, rfl⟩
  rw [hb1] at P1
  have k1 := P1.cell
  have S1 := S w1 F1
  replace S := Lib.hid S; replace S1 := Lib.hid S1; replace F := Lib.hid F; replace P1 := Lib.hid P1; replace F1 := Lib.hid F1; replace hop := Lib.hid hop; replace hlo := Lib.hid hlo; replace hhi := Lib.hid hhi; replace hK := Lib.hid hK; replace hT := Lib.hid hT; replace hD := Lib.hid hD; replace hV := Lib.hid hV; replace hC := Lib.hid hC; replace q1 := Lib.hid q1; replace q2 := Lib.hid q2; replace q3 := Lib.hid q3
  go_enter Try.func25, Try.ntmps25
  go_wp2_with fail
  refine (S1.out).mono ?_
  rintro e w2 ⟨⟨a, d, rfl, hR, hd⟩, f2⟩
  have ha := hR.le
  have F2 := F1.out.trans f2
  by_cases c1 : 200 < a
  · have c1I : (200 : Int) < (a : Int) := by omega
    obtain rfl : C = 2 := q1.out (.inl (by omega))
    replace f2 := Lib.hid f2; replace F2 := Lib.hid F2; replace hR := Lib.hid hR; replace hd := Lib.hid hd; replace ha := Lib.hid ha
    go_wp2_with fail
    go_ret
    exact ⟨rfl, F2.out⟩
  · have c1I : ¬ (200 : Int) < (a : Int) := by omega
    have hex : a = T ∧ d = D := hR.ex (by
      rcases Nat.lt_or_ge 200 T with h | h
      · have := hR.big h; omega
      · exact h)
    by_cases c2 : 20 < d
    · have c2I : (20 : Int) < (d : Int) := by omega
      obtain rfl : C = 2 := q1.out (.inr (by omega))
      replace f2 := Lib.hid f2; replace F2 := Lib.hid F2; replace hR := Lib.hid hR; replace hd := Lib.hid hd; replace ha := Lib.hid ha; replace hex := Lib.hid hex
      go_wp2_with fail
      go_ret
      exact ⟨rfl, F2.out⟩
    · have c2I : ¬ (20 : Int) < (d : Int) := by omega
      have k2 := (f2.pt P1.out (by simp)).cell
      have FF := F.out w2 F2
      replace f2 := Lib.hid f2; replace F2 := Lib.hid F2; replace FF := Lib.hid FF; replace hR := Lib.hid hR; replace hd := Lib.hid hd; replace ha := Lib.hid ha; replace hex := Lib.hid hex
      go_wp2_with fail
      refine (FF.out).mono ?_
      rintro e w3 ⟨rfl, f3⟩
      have F3 := F2.out.trans f3
      replace f3 := Lib.hid f3; replace F3 := Lib.hid F3
      cases V
      · go_wp2_with fail
        go_ret
        exact ⟨ret_i (q2.out (by have := hex.out; omega) (by first | rfl | trivial)).symm, F3.out⟩
      · go_wp2_with fail
        go_ret
        exact ⟨ret_i (q3.out (by have := hex.out; omega) (by first | rfl | trivial)).symm, F3.out⟩
end Go.Proofs.Ytehmfnpiidcbpaa
