import Derived.Test.YtnggimkkjdipmaaTB26
namespace Go.Proofs.Ytnggimkkjdipmaa
open Go.RowKit
set_option linter.unusedVariables false
set_option linter.unusedSimpArgs false
set_option maxHeartbeats 16000000
set_option maxRecDepth 100000
/-! #### Same, of one table, valid or not -/
theorem rsame_fit (T : Tb) (va vb : Value) (w : World) (hA : TIn w va T) (hB : TIn w vb T) (hV : Fits T) :
    Calls Try.prog 32 #[va, vb] w fun e w' => e = .returned (.bool true) ∧ Fr [] w w' := by
  obtain ⟨ra, rfl, hRA⟩ := hA
  obtain ⟨rb, rfl, hRB⟩ := hB
  rw [show T.val ra = .agg #[.int .i64 T.st, .int .i64 T.ev, .int .i64 T.sr, ra] from rfl, show T.val rb = .agg #[.int .i64 T.st, .int .i64 T.ev, .int .i64 T.sr, rb] from rfl]
  obtain ⟨w1, hw1⟩ : ∃ x, w.alloc (.cells #[.int .i64 T.st, .int .i64 T.ev, .int .i64 T.sr, ra] RTab) = x := ⟨_, rfl⟩
  have P1 := Pt.newA w RTab #[.int .i64 T.st, .int .i64 T.ev, .int .i64 T.sr, ra]
  rw [hw1] at P1
  have F1 : Fr [] w w1 := by rw [← hw1]; exact (Fr.refl [] w).alloc _
  obtain ⟨b1, hb1⟩ : ∃ x, w.heap.size = x := ⟨_, rfl⟩
  rw [hb1] at P1
  obtain ⟨w2, hw2⟩ : ∃ x, w1.alloc (.cells #[.int .i64 T.st, .int .i64 T.ev, .int .i64 T.sr, rb] RTab) = x := ⟨_, rfl⟩
  have P2 := Pt.newA w1 RTab #[.int .i64 T.st, .int .i64 T.ev, .int .i64 T.sr, rb]
  rw [hw2] at P2
  have F2 : Fr [] w1 w2 := by rw [← hw2]; exact (Fr.refl [] w1).alloc _
  obtain ⟨b2, hb2⟩ : ∃ x, w1.heap.size = x := ⟨_, rfl⟩
  rw [hb2] at P2
  have Q1 := F2.pt P1 (by simp)
  have FA := F1.trans F2
  have k1 := Q1.cell
  have k2 := P2.cell
  obtain ⟨oA, capA, rfl, hlA⟩ := hRA
  obtain ⟨oB, capB, rfl, hlB⟩ := hRB
  have hrs := hV.1
  replace P1 := Lib.hid P1; replace P2 := Lib.hid P2; replace Q1 := Lib.hid Q1; replace F1 := Lib.hid F1; replace F2 := Lib.hid F2; replace FA := Lib.hid FA; replace hlA := Lib.hid hlA; replace hlB := Lib.hid hlB; replace hV := Lib.hid hV; replace hrs := Lib.hid hrs
  go_enter Try.func32, Try.ntmps32
  go_wp2_with fail
  clear k1 k2 hw1 hw2 hb1 hb2
  go_loopg [5] (T.rows.length + 1) (fun k v5 wr => ∃ i : Nat, i ≤ T.rows.length ∧ k + i = T.rows.length + 1 ∧ v5 = .int .i64 i ∧ Fr [] w2 wr)
  case atStart => exact ⟨0, by omega, by omega, rfl, Fr.refl _ _⟩
  case round =>
    obtain ⟨i, hi, hk, rfl, hF⟩ := hrel
    obtain ⟨gi, rfl⟩ : ∃ g : Nat, g = gk := ⟨_, rfl⟩
    obtain ⟨wi, rfl⟩ : ∃ x : World, x = wr := ⟨_, rfl⟩
    have hl60 : T.rows.length ≤ 6000000000000 := by have := hrs.out; omega
    have k1 := (hF.pt Q1.out (by simp)).cell
    have k2 := (hF.pt P2.out (by simp)).cell
    by_cases hlt : i < T.rows.length
    · have hltI : (i : Int) < T.rows.length := by omega
      obtain ⟨BA, fA, uA, rfl, hBA, hcA, oA2, cA2, rfl, huA⟩ := hlA.out i hlt
      obtain ⟨BB, fB, uB, rfl, hBB, hcB, oB2, cB2, rfl, huB⟩ := hlB.out i hlt
      have hrow := hV.out.2 _ (List.getElem_mem hlt)
      obtain ⟨row, hro⟩ : ∃ r, T.rows[i] = r := ⟨_, rfl⟩
      rw [hro] at hcA hcB huA huB hrow
      have hFw := FA.out.trans hF
      have c1 := hFw.cell (p := ⟨BA, fA + i, none⟩) hBA (by simp)
      rw [hcA] at c1
      have c2 := hFw.cell (p := ⟨BB, fB + i, none⟩) hBB (by simp)
      rw [hcB] at c2
      have heq : ((row.length : Int) != (row.length : Int)) = false := by simp
      have hr12 : row.length ≤ 9000000000000 := by omega
      replace huA := Lib.hid huA; replace huB := Lib.hid huB; replace hro := Lib.hid hro; replace hrow := Lib.hid hrow; replace hF := Lib.hid hF; replace hcA := Lib.hid hcA; replace hcB := Lib.hid hcB; replace hFw := Lib.hid hFw
      go_wp2_with fail
      go_quiet (fail)
      go_wp2_with fail
      clear k1 k2 c1 c2
      go_loopg [6] (row.length + 1) (fun k v6 wr => ∃ j : Nat, j ≤ row.length ∧ k + j = row.length + 1 ∧ v6 = .int .i64 j ∧ Fr [] w2 wr)
      case atStart => exact ⟨0, by omega, by omega, rfl, hF.out.drewN _⟩
      clear hF hFw
      case round =>
        obtain ⟨j, hj, hk2, rfl, hF⟩ := hrel
        obtain ⟨wj, rfl⟩ : ∃ x : World, x = wr := ⟨_, rfl⟩
        have k1 := (hF.pt Q1.out (by simp)).cell
        have k2 := (hF.pt P2.out (by simp)).cell
        have hFw := FA.out.trans hF
        have c1 := hFw.cell (p := ⟨BA, fA + i, none⟩) hBA (by simp)
        rw [hcA.out] at c1
        have c2 := hFw.cell (p := ⟨BB, fB + i, none⟩) hBB (by simp)
        rw [hcB.out] at c2
        by_cases hlj : j < row.length
        · have hljI : (j : Int) < row.length := by omega
          obtain ⟨DA, gA, rfl, hDA, a1, a2⟩ := huA.out j hlj
          obtain ⟨DB, gB, rfl, hDB, d1, d2⟩ := huB.out j hlj
          have x1 := hFw.cell (p := ⟨DA, gA + j * 2, none⟩) hDA (by simp)
          rw [a1] at x1
          have x2 := hFw.cell (p := ⟨DA, gA + j * 2 + 1, none⟩) hDA (by simp)
          rw [a2] at x2
          have y1 := hFw.cell (p := ⟨DB, gB + j * 2, none⟩) hDB (by simp)
          rw [d1] at y1
          have y2 := hFw.cell (p := ⟨DB, gB + j * 2 + 1, none⟩) hDB (by simp)
          rw [d2] at y2
          obtain ⟨⟨z1, z2⟩, hz⟩ : ∃ x, row[j] = x := ⟨_, rfl⟩
          rw [hz] at x1 x2 y1 y2
          dsimp only at x1 x2 y1 y2
          clear a1 a2 d1 d2
          replace hz := Lib.hid hz; replace hF := Lib.hid hF; replace hFw := Lib.hid hFw
          go_wp2_with fail
          go_quiet (fail)
          go_wp2_with fail
          go_roundg (gk - 1)
          case measure => omega
          case rel => exact ⟨j + 1, by omega, by omega, by go_num, hF.out.drewN _⟩
        · have hljI : ¬ (j : Int) < row.length := by omega
          replace hF := Lib.hid hF; replace hFw := Lib.hid hFw
          go_wp2_with fail
          go_roundg (gi - 1)
          case measure => omega
          case rel => exact ⟨i + 1, by omega, by omega, by go_num, hF.out⟩
    · have hltI : ¬ (i : Int) < T.rows.length := by omega
      have F9 := FA.out.trans hF
      replace hF := Lib.hid hF; replace F9 := Lib.hid F9
      go_wp2_with fail
      go_ret
      exact ⟨rfl, F9.out⟩
end Go.Proofs.Ytnggimkkjdipmaa
