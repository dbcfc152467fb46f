import Derived.Test.YtnggimkkjdipmaaTM11
namespace Go.Proofs.Ytnggimkkjdipmaa
open Go.RowKit
set_option linter.unusedVariables false
set_option linter.unusedSimpArgs false
set_option maxHeartbeats 16000000
set_option maxRecDepth 100000
def leastF (T : Tb) : Tb × Int := if validT T then (leastT T, 0) else (Tb.none, 1)
/-- What Least hands back, in blocks of its own; its row of rows may be written. -/
def LeaO (X : Tb) (s : Int) (w : World) (e : Ending) (w' : World) : Prop := ∃ o c us bo, e = .returned (.tuple #[.agg #[.int .i64 X.st, .int .i64 X.ev, .int .i64 X.sr, .slice o X.rows.length c], .int .i64 s]) ∧ RInB (fun b => w.heap.size ≤ b) w' (.slice o X.rows.length c) X.rows ∧ Row 1 w' (.slice o X.rows.length c) X.rows.length us bo ∧ (∀ z, bo = some z → w.heap.size ≤ z) ∧ Fr [] w w'
theorem Least_own (T : Tb) (v : Value) (w : World) (hT : TIn w v T) :
    Calls Try.prog 31 #[v] w (LeaO (leastF T).1 (leastF T).2 w) := by
  obtain ⟨r, rfl, hR⟩ := hT
  rw [show T.val r = .agg #[.int .i64 T.st, .int .i64 T.ev, .int .i64 T.sr, r] from rfl]
  have VA : ∀ W, Fr [] w W → Calls Try.prog 19 #[.agg #[.int .i64 T.st, .int .i64 T.ev, .int .i64 T.sr, r]] W fun e w' => e = .returned (.bool (validT T)) ∧ Fr [] W w' := fun W f => valid_any T _ W ⟨r, rfl, hR.fr f⟩
  obtain ⟨⟨X, z⟩, hX⟩ : ∃ x, leastF T = x := ⟨_, rfl⟩
  rw [hX]
  dsimp only
  obtain ⟨w1, hw1⟩ : ∃ x, w.alloc (.cells #[.int .i64 T.st, .int .i64 T.ev, .int .i64 T.sr, r] TTab) = x := ⟨_, rfl⟩
  have P1 := Pt.newA w TTab #[.int .i64 T.st, .int .i64 T.ev, .int .i64 T.sr, r]
  rw [hw1] at P1
  have F1 : Fr [] w w1 := by rw [← hw1]; exact (Fr.refl [] w).alloc _
  obtain ⟨b1, hb1⟩ : ∃ x, w.heap.size = x := ⟨_, rfl⟩
  rw [hb1] at P1
  obtain ⟨w2, hw2⟩ : ∃ x, w1.alloc (.cells #[.int .i64 0, .int .i64 0, .int .i64 0, .slice none 0 0] TTab) = x := ⟨_, rfl⟩
  have P2 := Pt.newA w1 TTab #[.int .i64 0, .int .i64 0, .int .i64 0, .slice none 0 0]
  rw [hw2] at P2
  have F2 : Fr [] w1 w2 := by rw [← hw2]; exact (Fr.refl [] w1).alloc _
  obtain ⟨b2, hb2⟩ : ∃ x, w1.heap.size = x := ⟨_, rfl⟩
  rw [hb2] at P2
  have l1 := P1.lt
  have lt12 : b1 < b2 := by omega
  have wb1 : w.heap.size ≤ b1 := by omega
  have Q1 := F2.pt P1 (by simp)
  have FA := F1.trans F2
  have k1 := Q1.cell
  replace P1 := Lib.hid P1; replace P2 := Lib.hid P2; replace Q1 := Lib.hid Q1; replace F1 := Lib.hid F1; replace F2 := Lib.hid F2; replace FA := Lib.hid FA; replace VA := Lib.hid VA; replace hR := Lib.hid hR; replace hX := Lib.hid hX
  go_enter Try.func31, Try.ntmps31
  go_wp2_with fail
  refine (VA.out _ FA.out).mono ?_
  rintro e w4 ⟨rfl, f4⟩
  have F4 := FA.out.trans f4
  have p1 := f4.pt Q1.out (by simp)
  have p3 := f4.pt P2.out (by simp)
  have l4 := p3.lt
  clear k1 hw1 hw2 hb1 hb2
  cases hv : validT T
  · have hx := hX.out
    unfold leastF at hx
    rw [hv] at hx
    obtain ⟨rfl, rfl⟩ : Tb.none = X ∧ 1 = z := by simpa using hx
    clear hx
    have c3 := p3.cell
    have z3 := p3.free
    have q3 := (((p3.set 0 (.int .i64 0)).set 1 (.int .i64 0)).set 2 (.int .i64 0)).set 3 (.slice none 0 0)
    have f5 : Fr [b2] w4 ((((w4.setCell ⟨b2, 0, none⟩ (.int .i64 0)).setCell ⟨b2, 1, none⟩ (.int .i64 0)).setCell ⟨b2, 2, none⟩ (.int .i64 0)).setCell ⟨b2, 3, none⟩ (.slice none 0 0)) := ((((Fr.refl _ w4).setCell (by simp) _).setCell (by simp) _).setCell (by simp) _).setCell (by simp) _
    obtain ⟨w5, hw5⟩ : ∃ x, (((w4.setCell ⟨b2, 0, none⟩ (.int .i64 0)).setCell ⟨b2, 1, none⟩ (.int .i64 0)).setCell ⟨b2, 2, none⟩ (.int .i64 0)).setCell ⟨b2, 3, none⟩ (.slice none 0 0) = x := ⟨_, rfl⟩
    rw [hw5] at q3 f5
    simp only [List.set_cons_zero, List.set_cons_succ] at q3
    have k3 := q3.cell
    have GO : LeaO Tb.none 1 w (.returned (.tuple #[.agg #[.int .i64 0, .int .i64 0, .int .i64 0, .slice none 0 0], .int .i64 1])) w5 := ⟨none, 0, [], none, rfl, ⟨none, 0, rfl, fun i hi => absurd hi (Nat.not_lt_zero _)⟩, Row.nil 1 _ _, (fun z hz => by cases hz), F4.step f5 (fun q hq => .inr (by simp at hq; omega))⟩
    replace hv := Lib.hid hv; replace F4 := Lib.hid F4; replace f4 := Lib.hid f4; replace p1 := Lib.hid p1; replace p3 := Lib.hid p3; replace q3 := Lib.hid q3; replace f5 := Lib.hid f5; replace GO := Lib.hid GO
    go_wp2_with fail
    refine bodyPost_ret (v := .tuple #[.agg #[.int .i64 0, .int .i64 0, .int .i64 0, .slice none 0 0], .int .i64 1]) (by simp [results, Try.results31, go_sem, k3]) rfl GO.out
  · have hV := (validT_iff T).mp hv
    have hx := hX.out
    unfold leastF at hx
    rw [hv, if_pos rfl] at hx
    obtain ⟨hx1, rfl⟩ : leastT T = X ∧ 0 = z := by simpa using hx
    have LE := least_own T _ w4 ⟨r, rfl, hR.out.fr F4⟩ hV
    rw [hx1] at LE
    have c1 := p1.cell
    clear hx
    replace hv := Lib.hid hv; replace hV := Lib.hid hV; replace hx1 := Lib.hid hx1; replace F4 := Lib.hid F4; replace f4 := Lib.hid f4; replace p1 := Lib.hid p1; replace p3 := Lib.hid p3; replace LE := Lib.hid LE
    go_wp2_with fail
    refine LE.out.mono ?_
    rintro e w7 ⟨rv, rfl, ⟨hRB, us, bo, hRw, hul, hbo⟩, f7⟩
    have hRB' := hRB
    obtain ⟨orv, crv, hrv, _⟩ := hRB'
    subst hrv
    obtain ⟨nr, hnr⟩ : ∃ y, X.rows.length = y := ⟨_, rfl⟩
    have g3 := f7.pt p3.out (by simp)
    have c3 := g3.cell
    have z3 := g3.free
    have F7 := F4.out.trans f7
    clear c1
    rw [hnr] at hRB hRw ⊢
    have q3 := (((g3.set 0 (.int .i64 X.st)).set 1 (.int .i64 X.ev)).set 2 (.int .i64 X.sr)).set 3 (.slice orv nr crv)
    have f8 : Fr [b2] w7 ((((w7.setCell ⟨b2, 0, none⟩ (.int .i64 X.st)).setCell ⟨b2, 1, none⟩ (.int .i64 X.ev)).setCell ⟨b2, 2, none⟩ (.int .i64 X.sr)).setCell ⟨b2, 3, none⟩ (.slice orv nr crv)) := ((((Fr.refl _ w7).setCell (by simp) _).setCell (by simp) _).setCell (by simp) _).setCell (by simp) _
    obtain ⟨w8, hw8⟩ : ∃ x, (((w7.setCell ⟨b2, 0, none⟩ (.int .i64 X.st)).setCell ⟨b2, 1, none⟩ (.int .i64 X.ev)).setCell ⟨b2, 2, none⟩ (.int .i64 X.sr)).setCell ⟨b2, 3, none⟩ (.slice orv nr crv) = x := ⟨_, rfl⟩
    rw [hw8] at q3 f8
    simp only [List.set_cons_zero, List.set_cons_succ] at q3
    have k3 := q3.cell
    have s4 := F4.out.size
    have hRB8 := hRB.fr f8 (q' := fun b => w.heap.size ≤ b) (fun b _ hq => ⟨by simp; omega, by omega⟩)
    have hRw8 := hRw.fr f8 (fun z hz hm => by have := hbo z hz; simp at hm; omega)
    have GO : LeaO X 0 w (.returned (.tuple #[.agg #[.int .i64 X.st, .int .i64 X.ev, .int .i64 X.sr, .slice orv nr crv], .int .i64 0])) w8 := by
      refine ⟨orv, crv, us, bo, by rw [hnr], by rw [hnr]; exact hRB8, ?_, fun z hz => by have := hbo z hz; omega, F7.step f8 (fun q hq => .inr (by simp at hq; omega))⟩
      rw [hnr]
      have : us.length = nr := by rw [hul, hnr]
      rw [this] at hRw8
      exact hRw8
    replace hRB := Lib.hid hRB; replace hRw := Lib.hid hRw; replace hul := Lib.hid hul; replace hbo := Lib.hid hbo; replace f7 := Lib.hid f7; replace g3 := Lib.hid g3; replace F7 := Lib.hid F7; replace q3 := Lib.hid q3; replace f8 := Lib.hid f8; replace hRB8 := Lib.hid hRB8; replace hRw8 := Lib.hid hRw8; replace GO := Lib.hid GO; replace hnr := Lib.hid hnr
    go_wp2_with fail
    refine bodyPost_ret (v := .tuple #[.agg #[.int .i64 X.st, .int .i64 X.ev, .int .i64 X.sr, .slice orv nr crv], .int .i64 0]) (by simp [results, Try.results31, go_sem, k3]) rfl GO.out
/-! #### Same, of one table, valid or not -/
theorem rsame_fit (T : Tb) (va vb : Value) (w : World) (hA : TIn w va T) (hB : TIn w vb T) (hV : Fits T) :
    Calls Try.prog 32 #[va, vb] w fun e w' => e = .returned (.bool true) ∧ Fr [] w w' := by
  obtain ⟨ra, rfl, hRA⟩ := hA
  obtain ⟨rb, rfl, hRB⟩ := hB
  rw [show T.val ra = .agg #[.int .i64 T.st, .int .i64 T.ev, .int .i64 T.sr, ra] from rfl, show T.val rb = .agg #[.int .i64 T.st, .int .i64 T.ev, .int .i64 T.sr, rb] from rfl]
  obtain ⟨w1, hw1⟩ : ∃ x, w.alloc (.cells #[.int .i64 T.st, .int .i64 T.ev, .int .i64 T.sr, ra] RTab) = x := ⟨_, rfl⟩
  have P1 := Pt.newA w RTab #[.int .i64 T.st, .int .i64 T.ev, .int .i64 T.sr, ra]
  rw [hw1] at P1
  have F1 : Fr [] w w1 := by rw [← hw1]; exact (Fr.refl [] w).alloc _
  obtain ⟨b1, hb1⟩ : ∃ x, w.heap.size = x := ⟨_, rfl⟩
  rw [hb1] at P1
  obtain ⟨w2, hw2⟩ : ∃ x, w1.alloc (.cells #[.int .i64 T.st, .int .i64 T.ev, .int .i64 T.sr, rb] RTab) = x := ⟨_, rfl⟩
  have P2 := Pt.newA w1 RTab #[.int .i64 T.st, .int .i64 T.ev, .int .i64 T.sr, rb]
  rw [hw2] at P2
  have F2 : Fr [] w1 w2 := by rw [← hw2]; exact (Fr.refl [] w1).alloc _
  obtain ⟨b2, hb2⟩ : ∃ x, w1.heap.size = x := ⟨_, rfl⟩
  rw [hb2] at P2
  have Q1 := F2.pt P1 (by simp)
  have FA := F1.trans F2
  have k1 := Q1.cell
  have k2 := P2.cell
  obtain ⟨oA, capA, rfl, hlA⟩ := hRA
  obtain ⟨oB, capB, rfl, hlB⟩ := hRB
  have hrs := hV.1
  replace P1 := Lib.hid P1; replace P2 := Lib.hid P2; replace Q1 := Lib.hid Q1; replace F1 := Lib.hid F1; replace F2 := Lib.hid F2; replace FA := Lib.hid FA; replace hlA := Lib.hid hlA; replace hlB := Lib.hid hlB; replace hV := Lib.hid hV; replace hrs := Lib.hid hrs
  go_enter Try.func32, Try.ntmps32
  go_wp2_with fail
  clear k1 k2 hw1 hw2 hb1 hb2
  go_loopg [5] (T.rows.length + 1) (fun k v5 wr => ∃ i : Nat, i ≤ T.rows.length ∧ k + i = T.rows.length + 1 ∧ v5 = .int .i64 i ∧ Fr [] w2 wr)
  case atStart => exact ⟨0, by omega, by omega, rfl, Fr.refl _ _⟩
  case round =>
    obtain ⟨i, hi, hk, rfl, hF⟩ := hrel
    obtain ⟨gi, rfl⟩ : ∃ g : Nat, g = gk := ⟨_, rfl⟩
    obtain ⟨wi, rfl⟩ : ∃ x : World, x = wr := ⟨_, rfl⟩
    have hl60 : T.rows.length ≤ 6000000000000 := by have := hrs.out; omega
    have k1 := (hF.pt Q1.out (by simp)).cell
    have k2 := (hF.pt P2.out (by simp)).cell
    by_cases hlt : i < T.rows.length
    · have hltI : (i : Int) < T.rows.length := by omega
      obtain ⟨BA, fA, uA, rfl, hBA, hcA, oA2, cA2, rfl, huA⟩ := hlA.out i hlt
      obtain ⟨BB, fB, uB, rfl, hBB, hcB, oB2, cB2, rfl, huB⟩ := hlB.out i hlt
      have hrow := hV.out.2 _ (List.getElem_mem hlt)
      obtain ⟨row, hro⟩ : ∃ r, T.rows[i] = r := ⟨_, rfl⟩
      rw [hro] at hcA hcB huA huB hrow
      have hFw := FA.out.trans hF
      have c1 := hFw.cell (p := ⟨BA, fA + i, none⟩) hBA (by simp)
      rw [hcA] at c1
      have c2 := hFw.cell (p := ⟨BB, fB + i, none⟩) hBB (by simp)
      rw [hcB] at c2
      have heq : ((row.length : Int) != (row.length : Int)) = false := by simp
      have hr12 : row.length ≤ 9000000000000 := by omega
      replace huA := Lib.hid huA; replace huB := Lib.hid huB; replace hro := Lib.hid hro; replace hrow := Lib.hid hrow; replace hF := Lib.hid hF; replace hcA := Lib.hid hcA; replace hcB := Lib.hid hcB; replace hFw := Lib.hid hFw
      go_wp2_with fail
      go_quiet (fail)
      go_wp2_with fail
      clear k1 k2 c1 c2
      go_loopg [6] (row.length + 1) (fun k v6 wr => ∃ j : Nat, j ≤ row.length ∧ k + j = row.length + 1 ∧ v6 = .int .i64 j ∧ Fr [] w2 wr)
      case atStart => exact ⟨0, by omega, by omega, rfl, hF.out.drewN _⟩
      clear hF hFw
      case round =>
        obtain ⟨j, hj, hk2, rfl, hF⟩ := hrel
        obtain ⟨wj, rfl⟩ : ∃ x : World, x = wr := ⟨_, rfl⟩
        have k1 := (hF.pt Q1.out (by simp)).cell
        have k2 := (hF.pt P2.out (by simp)).cell
        have hFw := FA.out.trans hF
        have c1 := hFw.cell (p := ⟨BA, fA + i, none⟩) hBA (by simp)
        rw [hcA.out] at c1
        have c2 := hFw.cell (p := ⟨BB, fB + i, none⟩) hBB (by simp)
        rw [hcB.out] at c2
        by_cases hlj : j < row.length
        · have hljI : (j : Int) < row.length := by omega
          obtain ⟨DA, gA, rfl, hDA, a1, a2⟩ := huA.out j hlj
          obtain ⟨DB, gB, rfl, hDB, d1, d2⟩ := huB.out j hlj
          have x1 := hFw.cell (p := ⟨DA, gA + j * 2, none⟩) hDA (by simp)
          rw [a1] at x1
          have x2 := hFw.cell (p := ⟨DA, gA + j * 2 + 1, none⟩) hDA (by simp)
          rw [a2] at x2
          have y1 := hFw.cell (p := ⟨DB, gB + j * 2, none⟩) hDB (by simp)
          rw [d1] at y1
          have y2 := hFw.cell (p := ⟨DB, gB + j * 2 + 1, none⟩) hDB (by simp)
          rw [d2] at y2
          obtain ⟨⟨z1, z2⟩, hz⟩ : ∃ x, row[j] = x := ⟨_, rfl⟩
          rw [hz] at x1 x2 y1 y2
          dsimp only at x1 x2 y1 y2
          clear a1 a2 d1 d2
          replace hz := Lib.hid hz; replace hF := Lib.hid hF; replace hFw := Lib.hid hFw
          go_wp2_with fail
          go_quiet (fail)
          go_wp2_with fail
          go_roundg (gk - 1)
          case measure => omega
          case rel => exact ⟨j + 1, by omega, by omega, by go_num, hF.out.drewN _⟩
        · have hljI : ¬ (j : Int) < row.length := by omega
          replace hF := Lib.hid hF; replace hFw := Lib.hid hFw
          go_wp2_with fail
          go_roundg (gi - 1)
          case measure => omega
          case rel => exact ⟨i + 1, by omega, by omega, by go_num, hF.out⟩
    · have hltI : ¬ (i : Int) < T.rows.length := by omega
      have F9 := FA.out.trans hF
      replace hF := Lib.hid hF; replace F9 := Lib.hid F9
      go_wp2_with fail
      go_ret
      exact ⟨rfl, F9.out⟩
end Go.Proofs.Ytnggimkkjdipmaa
