import Derived.Test.YtehmfnpiidcbpaaGR1
import Derived.Deep.CutRange
import Derived.Deep.CutBlock
namespace Go.Proofs.Ytehmfnpiidcbpaa
open Go.RowKit
set_option linter.unusedVariables false
set_option linter.unusedSimpArgs false
set_option maxHeartbeats 16000000
set_option maxRecDepth 100000
/-! ### places -/
theorem IIn.slice {w : World} {v : Value} {l : List Int} (h : IIn w v l) : ∃ o cap, v = .slice o l.length cap := by obtain ⟨o, cap, e, _⟩ := h; exact ⟨o, cap, e⟩
theorem places_any : ∀ (M : Nat) (n : Nd) (w : World) (v vl : Value) (l : List Int), n.nodes ≤ M → M ≤ 10000 → n.wk = true → NI w n v → IIn w vl l → l.length + 2 * n.nodes ≤ 50000 →
    Calls Try.prog 61 #[v, vl] w (RowI w (n.pl l))
  | 0, n, w, v, vl, l, hN, _, _, _, _, _ => by have := nodes_pos n; omega
  | M + 1, n, w, v, vl, l, hN, hM, hs, hv, hvl, hll => by
    have ih := fun (i : Nat) (hi : i < n.kids.length) W s u l' (h : NI W n.kids[i] s) (h2 : IIn W u l') (h3 : l'.length + 2 * n.kids[i].nodes ≤ 50000) => places_any M n.kids[i] W s u l' (by have := kid_lt hi; omega) (by omega) (wk_kid hs (List.getElem_mem hi)) h h2 h3
    obtain ⟨o, cap, rfl, hl⟩ := hv.open
    have e3 := nodesL_len n.kids
    have e4 := n.nodes_eq
    have hsp := @wk_span n hs
    have HE := n.pl_eq l
    have hKb0 : n.kids.length ≤ 10000 := by omega
    have hnl : ∀ i (hi : i < n.kids.length) (l1 : List Int), l1.length ≤ l.length + 2 → (n.op = 0 ∨ l1.length ≤ l.length) → (plL (n.kids.take i) l1).length + 2 * n.kids[i].nodes ≤ 50000 := fun i hi l1 h1 h2 => by
      have a1 := plL_len (n.kids.take i) l1
      have a2 := nodesL_take n.kids i hi
      have a3 := nodesL_take_le n.kids (i + 1)
      omega
    clear hv hM e3
    obtain ⟨op, hop⟩ : ∃ x, n.op = x := ⟨_, rfl⟩
    obtain ⟨lo, hlo⟩ : ∃ x, n.lo = x := ⟨_, rfl⟩
    obtain ⟨hi, hhi⟩ : ∃ x, n.hi = x := ⟨_, rfl⟩
    obtain ⟨K, hK⟩ : ∃ x, n.kids.length = x := ⟨_, rfl⟩
    obtain ⟨R, hR⟩ : ∃ y, n.pl l = y := ⟨_, rfl⟩
    rw [hop, hlo, hhi, hK, hR]
    rw [hR, hop, hlo, hhi] at HE
    rw [hop, hlo, hhi] at hsp
    rw [hop] at hnl
    rw [hK] at hKb0
    have hKI : K ≤ 10000 := hKb0
    obtain ⟨l1, hl1⟩ : ∃ y, (if op = 0 then putF (hi + 1) (putF lo l) else l) = y := ⟨_, rfl⟩
    rw [hl1] at HE
    have hl1n : l1.length ≤ l.length + 2 ∧ (op = 0 ∨ l1.length ≤ l.length) := by
      rw [← hl1]
      split
      · rename_i h
        have := len_putF (hi + 1) (putF lo l); have := len_putF lo l
        exact ⟨by omega, .inl h⟩
      · exact ⟨by omega, .inr (Nat.le_refl _)⟩
    have hlb : l.length ≤ 50000 := by omega
    clear hKb0 hll
    obtain ⟨w1, hw1⟩ : ∃ x, w.alloc (.cells #[.int .i64 op, .int .i64 lo, .int .i64 hi, .slice o K cap] 40) = x := ⟨_, rfl⟩
    have P1 := Pt.newA w 40 #[.int .i64 op, .int .i64 lo, .int .i64 hi, .slice o K cap]
    rw [hw1] at P1
    have F1 : Fr [] w w1 := by rw [← hw1]; exact (Fr.refl [] w).alloc _
    obtain ⟨b1, hb1⟩ : ∃ x, w.heap.size = x := ⟨_, rfl⟩
    rw [hb1] at P1
    have k1 := P1.cell
    replace ih := Lib.hid ih; replace hl := Lib.hid hl; replace hop := Lib.hid hop; replace hlo := Lib.hid hlo; replace hhi := Lib.hid hhi; replace hK := Lib.hid hK; replace hR := Lib.hid hR; replace hs := Lib.hid hs; replace P1 := Lib.hid P1; replace F1 := Lib.hid F1; replace HE := Lib.hid HE; replace hsp := Lib.hid hsp; replace hvl := Lib.hid hvl; replace hnl := Lib.hid hnl; replace hl1 := Lib.hid hl1; replace hl1n := Lib.hid hl1n; replace hlb := Lib.hid hlb; replace hN := Lib.hid hN; replace e4 := Lib.hid e4
    go_enter Try.func61, Try.ntmps61
    go_upto_if 8 with fail
    obtain ⟨Z, hZ⟩ : ∃ Z, (op == 0) = Z := ⟨_, rfl⟩
    rw [hZ]
    replace hZ := Lib.hid hZ
    go_cut [1] from 9 to 17 (fun v1 wx => IIn wx v1 l1 ∧ Fr [] w1 wx)
    case first =>
      as_aux_lemma =>
      by_cases h0 : op = 0
      · subst h0
        obtain rfl : Z = true := by rw [← hZ.out]; rfl
        have hb := hsp.out rfl
        obtain ⟨hb1, hb2, hb3⟩ := hb
        have e1 := hl1.out
        rw [if_pos rfl] at e1
        have C1 := put_any vl l lo w1 (hvl.out.fr F1.out) (by have := hlb.out; omega)
        replace C1 := Lib.hid C1; replace e1 := Lib.hid e1
        go_wp2_with fail
        refine (C1.out).mono ?_
        rintro e w2 ⟨v2, rfl, p2, f2⟩
        have k2 := (f2.pt P1.out (by simp)).cell
        have C2 := put_any v2 _ (hi + 1) w2 p2 (by have := len_putF lo l; have := hlb.out; omega)
        rw [e1.out] at C2
        replace p2 := Lib.hid p2; replace f2 := Lib.hid f2; replace C2 := Lib.hid C2
        go_wp2_with fail
        refine (C2.out).mono ?_
        rintro e w3 ⟨v3, rfl, p3, f3⟩
        have F3 := f2.out.trans f3
        replace p3 := Lib.hid p3; replace f3 := Lib.hid f3; replace F3 := Lib.hid F3
        go_wp2_with fail
        go_meet
        case rel => exact ⟨p3.out, F3.out⟩
      · obtain rfl : Z = false := by rw [← hZ.out]; simpa using h0
        have e1 := hl1.out
        rw [if_neg h0] at e1
        subst e1
        have p3 := hvl.out.fr F1.out
        replace p3 := Lib.hid p3
        go_wp2_with fail
        go_meet
        case rel => exact ⟨p3.out, Fr.refl _ _⟩
    case rest =>
      obtain ⟨p2, f2⟩ := hcut
      have I0 := Lib.hid p2
      have F2 := Lib.hid f2
      clear p2 f2
      go_wp2_with fail
      go_loopg [1, 5] (K + 1) (fun k v1 v5 wr => ∃ i : Nat, i ≤ K ∧ k + i = K + 1 ∧ v5 = .int .i64 i ∧ IIn wr v1 (plL (n.kids.take i) l1) ∧ Fr [] w1 wr)
      case atStart => exact ⟨0, by omega, by omega, rfl, I0.out, F2.out⟩
      case round =>
        obtain ⟨i, hi2, hk, rfl, hP, hF1⟩ := hrel
        obtain ⟨wi, rfl⟩ : ∃ x : World, x = wr := ⟨_, rfl⟩
        have hF := F1.out.trans hF1
        have k3 := (hF1.pt P1.out (by simp)).cell
        by_cases hlt : i < K
        · have hltI : (i : Int) < K := by omega
          have hil : i < n.kids.length := by have := hK.out; omega
          obtain ⟨B, off, s, hoB, hB, _, a1, a2, a3, a4, hkid⟩ := hl.out (i) hil
          have x1 := hF.cell (p := ⟨B, off + (i) * 4, none⟩) hB (by simp)
          have x2 := hF.cell (p := ⟨B, off + (i) * 4 + 1, none⟩) hB (by simp)
          have x3 := hF.cell (p := ⟨B, off + (i) * 4 + 2, none⟩) hB (by simp)
          have x4 := hF.cell (p := ⟨B, off + (i) * 4 + 3, none⟩) hB (by simp)
          rw [a1] at x1
          rw [a2] at x2
          rw [a3] at x3
          rw [a4] at x4
          clear a1 a2 a3 a4
          subst hoB
          obtain ⟨so, sL, sc, rfl⟩ := hkid.sl
          obtain ⟨kop, hkop⟩ : ∃ x, n.kids[i].op = x := ⟨_, rfl⟩
          obtain ⟨klo, hklo⟩ : ∃ x, n.kids[i].lo = x := ⟨_, rfl⟩
          obtain ⟨khi, hkhi⟩ : ∃ x, n.kids[i].hi = x := ⟨_, rfl⟩
          rw [hkop] at x1 hkid
          rw [hklo] at x2 hkid
          rw [hkhi] at x3 hkid
          have hnl2 := hnl.out i hil l1 hl1n.out.1 hl1n.out.2
          have C := ih.out i hil wi _ _ _ (hkid.go hF) hP hnl2
          rw [← plL_take n.kids l1 i hil] at C
          replace hF := Lib.hid hF; replace hF1 := Lib.hid hF1; replace hkop := Lib.hid hkop; replace hklo := Lib.hid hklo; replace hkhi := Lib.hid hkhi; replace hkid := Lib.hid hkid; replace C := Lib.hid C; replace hP := Lib.hid hP; replace hnl2 := Lib.hid hnl2
          go_wp2_with fail
          refine (C.out).mono ?_
          rintro e w3 ⟨v3, rfl, p3, f3⟩
          have F3 := hF1.out.trans f3
          replace f3 := Lib.hid f3; replace F3 := Lib.hid F3; replace p3 := Lib.hid p3
          go_wp2_with fail
          go_roundg (gk - 1)
          case measure => omega
          case rel => exact ⟨i + 1, by omega, by omega, by go_num, p3.out, F3.out⟩
        · obtain rfl : i = K := by omega
          have hltI : ¬ (i : Int) < (i : Int) := by omega
          have htk : n.kids.take i = n.kids := List.take_of_length_le (by have := hK.out; omega)
          rw [htk, ← HE.out] at hP
          replace hF := Lib.hid hF; replace hF1 := Lib.hid hF1; replace htk := Lib.hid htk; replace hP := Lib.hid hP
          go_wp2_with fail
          go_ret
          exact ⟨_, rfl, hP.out, hF.out⟩
end Go.Proofs.Ytehmfnpiidcbpaa
