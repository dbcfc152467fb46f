import Derived.Test.YtehmfnpiidcbpaaGN1
import Derived.Test.YtehmfnpiidcbpaaGS1
namespace Go.Proofs.Ytehmfnpiidcbpaa
open Go.RowKit
set_option linter.unusedVariables false
set_option linter.unusedSimpArgs false
set_option maxHeartbeats 16000000
set_option maxRecDepth 100000
/-! ### Constraints in memory -/
/-- v is constraint n, its kids lie in blocks of some kind. -/
inductive NIn (q : Nat → Prop) (w : World) : Nd → Value → Prop
  | mk (op lo hi : Int) (ks : List Nd) (o : Option Addr) (cap : Nat) (sv : Nat → Value)
      (hc : ∀ i (h : i < ks.length), ∃ b off, o = some ⟨b, off, none⟩ ∧ b < w.heap.size ∧ q b ∧ w.cell? ⟨b, off + i * 4, none⟩ = some (.int .i64 ks[i].op) ∧ w.cell? ⟨b, off + i * 4 + 1, none⟩ = some (.int .i64 ks[i].lo) ∧ w.cell? ⟨b, off + i * 4 + 2, none⟩ = some (.int .i64 ks[i].hi) ∧ w.cell? ⟨b, off + i * 4 + 3, none⟩ = some (sv i))
      (hk : ∀ i (h : i < ks.length), NIn q w ks[i] (.agg #[.int .i64 ks[i].op, .int .i64 ks[i].lo, .int .i64 ks[i].hi, sv i])) :
      NIn q w (.mk op lo hi ks) (.agg #[.int .i64 op, .int .i64 lo, .int .i64 hi, .slice o ks.length cap])
theorem NIn.open {q : Nat → Prop} {w : World} {n : Nd} {v : Value} (h : NIn q w n v) : ∃ o cap, v = .agg #[.int .i64 n.op, .int .i64 n.lo, .int .i64 n.hi, .slice o n.kids.length cap] ∧
    ∀ i (h : i < n.kids.length), ∃ b off s, o = some ⟨b, off, none⟩ ∧ b < w.heap.size ∧ q b ∧ w.cell? ⟨b, off + i * 4, none⟩ = some (.int .i64 n.kids[i].op) ∧ w.cell? ⟨b, off + i * 4 + 1, none⟩ = some (.int .i64 n.kids[i].lo) ∧ w.cell? ⟨b, off + i * 4 + 2, none⟩ = some (.int .i64 n.kids[i].hi) ∧ w.cell? ⟨b, off + i * 4 + 3, none⟩ = some s ∧
      NIn q w n.kids[i] (.agg #[.int .i64 n.kids[i].op, .int .i64 n.kids[i].lo, .int .i64 n.kids[i].hi, s]) := by
  cases h with
  | mk op lo hi ks o cap sv hc hk =>
    refine ⟨o, cap, rfl, fun i hi => ?_⟩
    obtain ⟨b, off, h1, h2, h3, h4, h5, h6, h7⟩ := hc i hi
    exact ⟨b, off, sv i, h1, h2, h3, h4, h5, h6, h7, hk i hi⟩
theorem NIn.sl {q : Nat → Prop} {w : World} {n : Nd} {a b c s : Value} (h : NIn q w n (.agg #[a, b, c, s])) : ∃ o L cap, s = .slice o L cap := by
  obtain ⟨o, cap, e, _⟩ := h.open
  cases e
  exact ⟨o, _, cap, rfl⟩
theorem NIn.fr {q q' : Nat → Prop} {w w' : World} {n : Nd} {v : Value} (h : NIn q w n v) {ex : List Nat} (hf : Fr ex w w') (hx : ∀ b, b < w.heap.size → q b → b ∉ ex ∧ q' b) : NIn q' w' n v := by
  induction h with
  | mk op lo hi ks o cap sv hc hk ih =>
    refine .mk op lo hi ks o cap sv (fun i hi => ?_) ih
    obtain ⟨b, off, h1, h2, h3, h4, h5, h6, h7⟩ := hc i hi
    obtain ⟨n1, n2⟩ := hx b h2 h3
    exact ⟨b, off, h1, Nat.lt_of_lt_of_le h2 hf.size, n2, by rw [hf.cell (p := ⟨b, off + i * 4, none⟩) h2 n1]; exact h4, by rw [hf.cell (p := ⟨b, off + i * 4 + 1, none⟩) h2 n1]; exact h5, by rw [hf.cell (p := ⟨b, off + i * 4 + 2, none⟩) h2 n1]; exact h6, by rw [hf.cell (p := ⟨b, off + i * 4 + 3, none⟩) h2 n1]; exact h7⟩
/-- A constraint that is only read. -/
abbrev NI := NIn fun _ => True
theorem NIn.ni {q : Nat → Prop} {w : World} {n : Nd} {v : Value} (h : NIn q w n v) : NI w n v := h.fr (Fr.refl [] w) (fun _ _ _ => ⟨by simp, trivial⟩)
theorem NIn.go {w w' : World} {n : Nd} {v : Value} (h : NI w n v) (hf : Fr [] w w') : NI w' n v := h.fr hf (fun _ _ _ => ⟨by simp, trivial⟩)
theorem ret_nn {a b c d : Int} (h : a = b) (h2 : c = d) : Ending.returned (.tuple #[.int .i64 a, .int .i64 c]) = .returned (.tuple #[.int .i64 b, .int .i64 d]) := by rw [h, h2]
/-! ### size -/
theorem size_any : ∀ (M : Nat) (n : Nd) (w : World) (v : Value), n.nodes ≤ M → M ≤ 100000 → NI w n v →
    Calls Try.prog 55 #[v] w fun e w' => e = .returned (.tuple #[.int .i64 n.nodes, .int .i64 n.deep]) ∧ Fr [] w w'
  | 0, n, w, v, hN, _, _ => by have := nodes_pos n; omega
  | M + 1, n, w, v, hN, hM, hv => by
    have ih := fun (i : Nat) (hi : i < n.kids.length) W s (h : NI W n.kids[i] s) => size_any M n.kids[i] W s (by have := kid_lt hi; omega) (by omega) h
    obtain ⟨o, cap, rfl, hl⟩ := hv.open
    have e1 := n.nodes_eq
    have e2 := n.deep_eq
    have e3 := nodesL_len n.kids
    obtain ⟨T, hT⟩ : ∃ T, n.nodes = T := ⟨_, rfl⟩
    obtain ⟨D, hD⟩ : ∃ D, n.deep = D := ⟨_, rfl⟩
    rw [hT, hD]
    rw [hT] at e1 hN
    rw [hD] at e2
    obtain ⟨op, hop⟩ : ∃ x, n.op = x := ⟨_, rfl⟩
    obtain ⟨lo, hlo⟩ : ∃ x, n.lo = x := ⟨_, rfl⟩
    obtain ⟨hi, hhi⟩ : ∃ x, n.hi = x := ⟨_, rfl⟩
    obtain ⟨ks, hks⟩ : ∃ x, n.kids = x := ⟨_, rfl⟩
    rw [hop, hlo, hhi]
    rw [hks] at e1 e2 e3 ⊢
    obtain ⟨K, hK⟩ : ∃ x, ks.length = x := ⟨_, rfl⟩
    rw [hK] at e3 ⊢
    subst hks
    obtain ⟨S, hS⟩ : ∃ x, nodesL n.kids = x := ⟨_, rfl⟩
    have hsle := fun i => nodesL_take_le n.kids i
    have hdle := fun i => deepL_take_le n.kids i
    rw [hS] at e1 e3
    simp only [hS] at hsle hdle
    have hb : S ≤ 100000 := by omega
    have hKb : K ≤ 100000 := by omega
    clear hv
    obtain ⟨w1, hw1⟩ : ∃ x, w.alloc (.cells #[.int .i64 op, .int .i64 lo, .int .i64 hi, .slice o K cap] 46) = x := ⟨_, rfl⟩
    have P1 := Pt.newA w 46 #[.int .i64 op, .int .i64 lo, .int .i64 hi, .slice o K cap]
    rw [hw1] at P1
    have F1 : Fr [] w w1 := by rw [← hw1]; exact (Fr.refl [] w).alloc _
    obtain ⟨b1, hb1⟩ : ∃ x, w.heap.size = x := ⟨_, rfl⟩
    rw [hb1] at P1
    have k1 := P1.cell
    replace ih := Lib.hid ih; replace hl := Lib.hid hl; replace e1 := Lib.hid e1; replace e2 := Lib.hid e2; replace e3 := Lib.hid e3; replace hT := Lib.hid hT; replace hD := Lib.hid hD; replace hop := Lib.hid hop; replace hlo := Lib.hid hlo; replace hhi := Lib.hid hhi; replace hK := Lib.hid hK; replace hS := Lib.hid hS; replace hsle := Lib.hid hsle; replace hdle := Lib.hid hdle; replace P1 := Lib.hid P1; replace F1 := Lib.hid F1; replace hN := Lib.hid hN; replace hM := Lib.hid hM
    go_enter Try.func55, Try.ntmps55
    go_wp2_with fail
    go_loopg [2, 3, 11] (K + 1) (fun k v2 v3 v11 wr => ∃ i : Nat, i ≤ K ∧ k + i = K + 1 ∧ v11 = .int .i64 i ∧ v2 = .int .i64 (1 + nodesL (n.kids.take i) : Nat) ∧ v3 = .int .i64 (deepL (n.kids.take i) : Nat) ∧ Fr [] w wr)
    case atStart => exact ⟨0, by omega, by omega, rfl, rfl, rfl, F1.out⟩
    case round =>
      obtain ⟨i, hi2, hk, rfl, rfl, rfl, hF⟩ := hrel
      obtain ⟨wi, rfl⟩ : ∃ x : World, x = wr := ⟨_, rfl⟩
      have hs1 := hsle.out i
      have hd1 := hdle.out i
      by_cases hlt : i < K
      · have hltI : (i : Int) < K := by omega
        have hil : i < n.kids.length := by have := hK.out; omega
        obtain ⟨B, off, s, rfl, hB, _, a1, a2, a3, a4, hkid⟩ := hl.out i hil
        have x1 := hF.cell (p := ⟨B, off + i * 4, none⟩) hB (by simp)
        have x2 := hF.cell (p := ⟨B, off + i * 4 + 1, none⟩) hB (by simp)
        have x3 := hF.cell (p := ⟨B, off + i * 4 + 2, none⟩) hB (by simp)
        have x4 := hF.cell (p := ⟨B, off + i * 4 + 3, none⟩) hB (by simp)
        rw [a1] at x1
        rw [a2] at x2
        rw [a3] at x3
        rw [a4] at x4
        clear a1 a2 a3 a4
        have t1 := nodesL_take n.kids i hil
        have t2 := deepL_take n.kids i hil
        have hs2 := hsle.out (i + 1)
        have hd2 := hdle.out (i + 1)
        obtain ⟨so, sL, sc, rfl⟩ := hkid.sl
        obtain ⟨kop, hkop⟩ : ∃ x, n.kids[i].op = x := ⟨_, rfl⟩
        obtain ⟨klo, hklo⟩ : ∃ x, n.kids[i].lo = x := ⟨_, rfl⟩
        obtain ⟨khi, hkhi⟩ : ∃ x, n.kids[i].hi = x := ⟨_, rfl⟩
        rw [hkop] at x1 hkid
        rw [hklo] at x2 hkid
        rw [hkhi] at x3 hkid
        obtain ⟨w2, hw2⟩ : ∃ x, wi.alloc (.cells #[.int .i64 kop, .int .i64 klo, .int .i64 khi, .slice so sL sc] 46) = x := ⟨_, rfl⟩
        have P2 := Pt.newA wi 46 #[.int .i64 kop, .int .i64 klo, .int .i64 khi, .slice so sL sc]
        rw [hw2] at P2
        have F2 : Fr [] wi w2 := by rw [← hw2]; exact (Fr.refl [] wi).alloc _
        obtain ⟨b2, hb2⟩ : ∃ x, wi.heap.size = x := ⟨_, rfl⟩
        rw [hb2] at P2
        have k2 := P2.cell
        have F3 := hF.trans F2
        have C := ih.out i hil w2 _ (hkid.go F3)
        obtain ⟨tk, htk⟩ : ∃ x, n.kids[i].nodes = x := ⟨_, rfl⟩
        obtain ⟨dk, hdk⟩ : ∃ x, n.kids[i].deep = x := ⟨_, rfl⟩
        rw [htk] at C t1
        rw [hdk] at C t2
        obtain ⟨si, hsi⟩ : ∃ x, nodesL (n.kids.take i) = x := ⟨_, rfl⟩
        obtain ⟨di, hdi⟩ : ∃ x, deepL (n.kids.take i) = x := ⟨_, rfl⟩
        rw [hsi] at t1 hs1 ⊢
        rw [hdi] at t2 hd1 ⊢
        obtain ⟨mx, hmx⟩ : ∃ x, max di dk = x := ⟨_, rfl⟩
        rw [hmx] at t2
        have m1 : max (di : Int) (dk : Int) = (mx : Int) := by omega
        have m2 : (if (di : Int) < (dk : Int) then (dk : Int) else (di : Int)) = (mx : Int) := by split <;> omega
        have m3 : (if di < dk then (dk : Int) else (di : Int)) = (mx : Int) := by split <;> omega
        have hbk : tk ≤ 100000 := by omega
        have hbd : dk ≤ 100000 := by have := t2 ▸ hd2; omega
        replace t1 := Lib.hid t1; replace t2 := Lib.hid t2; replace hkop := Lib.hid hkop; replace hklo := Lib.hid hklo; replace hkhi := Lib.hid hkhi; replace hF := Lib.hid hF; replace P2 := Lib.hid P2; replace F2 := Lib.hid F2; replace F3 := Lib.hid F3; replace C := Lib.hid C; replace htk := Lib.hid htk; replace hdk := Lib.hid hdk; replace hsi := Lib.hid hsi; replace hdi := Lib.hid hdi; replace hmx := Lib.hid hmx; replace hkid := Lib.hid hkid; replace hs2 := Lib.hid hs2; replace hd2 := Lib.hid hd2
        go_wp2_with fail
        refine (C.out).mono ?_
        rintro e w3 ⟨rfl, f3⟩
        have F4 := F3.out.trans f3
        replace f3 := Lib.hid f3; replace F4 := Lib.hid F4
        go_wp2_with fail
        all_goals
          go_roundg (gk - 1)
          case measure => omega
          case rel => exact ⟨i + 1, by omega, by omega, by go_num, by rw [t1.out]; go_num, by rw [t2.out], F4.out⟩
      · obtain rfl : i = K := by omega
        have hltI : ¬ (i : Int) < (i : Int) := by omega
        have htk : n.kids.take i = n.kids := List.take_of_length_le (by have := hK.out; omega)
        rw [htk, hS.out]
        rw [htk] at hd1
        obtain ⟨dl, hdl⟩ : ∃ x, deepL n.kids = x := ⟨_, rfl⟩
        rw [hdl] at hd1 ⊢
        replace hF := Lib.hid hF; replace htk := Lib.hid htk; replace hdl := Lib.hid hdl
        go_wp2_with fail
        go_ret2
        exact ⟨ret_nn (by have := e1.out; omega) (by have := e2.out; have := hdl.out; omega), hF.out⟩
end Go.Proofs.Ytehmfnpiidcbpaa
