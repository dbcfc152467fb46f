import Derived.Test.YtnggimkkjdipmaaTD5
namespace Go.Proofs.Ytnggimkkjdipmaa
open Go.RowKit
set_option linter.unusedVariables false
set_option linter.unusedSimpArgs false
set_option maxHeartbeats 16000000
set_option maxRecDepth 100000
theorem rdiffer_any (A B : Tb) (va vb : Value) (a b : Int) (w : World) (hA : TIn w va A) (hB : TIn w vb B) (hVA : VT A) (hVB : VT B) (hev : A.ev = B.ev) (ha : 0 ≤ a ∧ a < A.st) (hb : 0 ≤ b ∧ b < B.st) :
    Calls Try.prog 63 #[va, vb, .int .i64 a, .int .i64 b] w (DiffR (differT A B a b) w) := by
  obtain ⟨ra, rfl, hRA⟩ := hA
  obtain ⟨rb, rfl, hRB⟩ := hB
  rw [show A.val ra = .agg #[.int .i64 A.st, .int .i64 A.ev, .int .i64 A.sr, ra] from rfl, show B.val rb = .agg #[.int .i64 B.st, .int .i64 B.ev, .int .i64 B.sr, rb] from rfl]
  obtain ⟨w1, hw1⟩ : ∃ x, w.alloc (.cells #[.int .i64 A.st, .int .i64 A.ev, .int .i64 A.sr, ra] RTab) = x := ⟨_, rfl⟩
  have P1 := Pt.newA w RTab #[.int .i64 A.st, .int .i64 A.ev, .int .i64 A.sr, ra]
  rw [hw1] at P1
  have F1 : Fr [] w w1 := by rw [← hw1]; exact (Fr.refl [] w).alloc _
  obtain ⟨b1, hb1⟩ : ∃ x, w.heap.size = x := ⟨_, rfl⟩
  rw [hb1] at P1
  obtain ⟨w2, hw2⟩ : ∃ x, w1.alloc (.cells #[.int .i64 B.st, .int .i64 B.ev, .int .i64 B.sr, rb] RTab) = x := ⟨_, rfl⟩
  have P2 := Pt.newA w1 RTab #[.int .i64 B.st, .int .i64 B.ev, .int .i64 B.sr, rb]
  rw [hw2] at P2
  have F2 : Fr [] w1 w2 := by rw [← hw2]; exact (Fr.refl [] w1).alloc _
  obtain ⟨b2, hb2⟩ : ∃ x, w1.heap.size = x := ⟨_, rfl⟩
  rw [hb2] at P2
  have Q1 := F2.pt P1 (by simp)
  have FA := F1.trans F2
  have sa := hVA.st; have sb := hVB.st
  obtain ⟨oA, capA, rfl, hlA⟩ := hRA
  obtain ⟨oB, capB, rfl, hlB⟩ := hRB
  have I0 : RfI A B w b1 b2 (.slice oA A.rows.length capA) (.slice oB B.rows.length capB) [((a, b), [])] [((a, b), .slice none 0 0)] (w2.alloc (.cells #[.int .i64 a, .int .i64 b, .slice none 0 0] TPr)) (.slice (some ⟨w2.heap.size, 0, none⟩) 1 1) (some w2.heap.size) := by
    have q1 := Q1.lt
    have q2 := P2.lt
    have l1 := P1.lt
    have fz : Fr [] w2 (w2.alloc (.cells #[.int .i64 a, .int .i64 b, .slice none 0 0] TPr)) := (Fr.refl [] w2).alloc _
    have PZ := Pt.newA w2 TPr #[.int .i64 a, .int .i64 b, .slice none 0 0]
    refine ⟨fz.pt Q1 (by simp), fz.pt P2 (by simp), ?_, rfl, fun k h1 h2 => ?_, fun z hz => by cases hz; exact q2, by omega, by omega, FA.trans fz⟩
    · refine .inr ⟨w2.heap.size, 0, 1, rfl, rfl, by simp, PZ.lt, by simp [tcells], fun j hj => ?_, fun j hj => ?_⟩
      · rw [Nat.zero_add, PZ.cell, PZ.free]
        have : j = 0 ∨ j = 1 ∨ j = 2 := by omega
        rcases this with rfl | rfl | rfl <;> exact ⟨rfl, rfl⟩
      · rw [Nat.zero_add, PZ.cell]; rfl
    · obtain rfl : k = 0 := by simp at h1; omega
      exact ⟨none, 0, rfl, fun i hi => by simp at hi⟩
  have bsA := hVA.rows
  have bsB := hVB.rows
  obtain ⟨X, hX⟩ : ∃ x, differT A B a b = x := ⟨_, rfl⟩
  rw [hX]
  have hO0 := DvOk.start ha hb
  have hX' := Lib.hid hX
  clear hX
  replace I0 := Lib.hid I0; replace hlA := Lib.hid hlA; replace hlB := Lib.hid hlB; replace P1 := Lib.hid P1; replace P2 := Lib.hid P2; replace Q1 := Lib.hid Q1; replace F1 := Lib.hid F1; replace F2 := Lib.hid F2; replace FA := Lib.hid FA; replace hO0 := Lib.hid hO0; replace hVA := Lib.hid hVA; replace hVB := Lib.hid hVB; replace hev := Lib.hid hev
  go_enter Try.func63, Try.ntmps63
  go_wp2_with fail
  clear hw1 hw2 hb1 hb2
  go_loopg [10, 11] 1000 (fun k v10 v11 wr => ∃ (i : Nat) (bo : Option Nat) (L : List Vis) (M : List ((Int × Int) × Value)), v11 = .int .i64 i ∧ k + i = 1000 ∧ dfF A B k i L = X ∧ i ≤ L.length ∧ DvOk A B L ∧ RfI A B w b1 b2 (.slice oA A.rows.length capA) (.slice oB B.rows.length capB) L M wr v10 bo)
  case atStart => exact ⟨0, _, _, _, rfl, rfl, hX'.out, by simp, hO0.out, I0.out⟩
  case round =>
    obtain ⟨i, bo, L, M, rfl, hk, hW, hi, hO, hI⟩ := hrel
    obtain ⟨wo, rfl⟩ : ∃ wo : World, wo = wr := ⟨_, rfl⟩
    obtain ⟨gq, rfl⟩ : ∃ g : Nat, g = gk := ⟨_, rfl⟩
    have hLe : L.length ≤ 900 := hO.le sa.2 sb.2
    by_cases hlt : i < L.length
    · have hltI : (i : Int) < L.length := by omega
      obtain ⟨⟨⟨s0, t0⟩, word⟩, hLi⟩ : ∃ x, L[i] = x := ⟨_, rfl⟩
      have hs0 := hO.rng i hlt
      have hwl := hO.len i hlt
      rw [hLi] at hs0 hwl
      dsimp only at hs0 hwl
      obtain ⟨s, rfl⟩ : ∃ s : Nat, s0 = s := ⟨s0.toNat, by omega⟩
      obtain ⟨t, rfl⟩ : ∃ s : Nat, t0 = s := ⟨t0.toNat, by omega⟩
      have hsr : s < A.rows.length := by omega
      have hsrI : (s : Int) < A.rows.length := by omega
      have htr : t < B.rows.length := by omega
      have htrI : (t : Int) < B.rows.length := by omega
      obtain ⟨BB, off, u, rfl, hB, hcB, o2, cap2, rfl, hu⟩ := hlA.out s hsr
      obtain ⟨BC, off3, u3, rfl, hC, hcC, o3, cap3, rfl, hv⟩ := hlB.out t htr
      obtain ⟨row, hrow⟩ : ∃ row, A.rows[s] = row := ⟨_, rfl⟩
      obtain ⟨sow, hsow⟩ : ∃ row, B.rows[t] = row := ⟨_, rfl⟩
      have hrl2 := hVA.out.row _ (List.getElem_mem hsr)
      have hcells := hVA.out.cell _ (List.getElem_mem hsr)
      have hrl3 := hVB.out.row _ (List.getElem_mem htr)
      have hcells3 := hVB.out.cell _ (List.getElem_mem htr)
      have hev12 := hVA.out.ev
      rw [hrow] at hu hrl2 hcells hcB
      rw [hsow] at hv hrl3 hcells3 hcC
      have hrow12 : row.length ≤ 12 := by omega
      have hsl : row.length = sow.length := by have := hev.out; omega
      obtain ⟨g', rfl⟩ : ∃ g', gq = g' + 1 := ⟨gq - 1, by omega⟩
      have hW2 := hW
      rw [dfF_step A B g' i L hlt s t word hLi row sow (by rw [List.getD_eq_getElem?_getD, show ((s : Int)).toNat = s by omega, List.getElem?_eq_getElem hsr, hrow]; rfl) (by rw [List.getD_eq_getElem?_getD, show ((t : Int)).toNat = t by omega, List.getElem?_eq_getElem htr, hsow]; rfl), dfRow_split] at hW2
      obtain ⟨bq, oq, cq, vw, rfl, hvs, hbq, cq1, cq2, cq3, hvn, hMi⟩ := hI.at hlt
      subst hvs
      rw [hLi] at cq1 cq2 hvn hMi
      dsimp only at cq1 cq2 hvn hMi
      obtain ⟨ov, cv, rfl⟩ : ∃ o c, vw = .slice o word.length c := by obtain ⟨o, c, e, _⟩ := hvn; exact ⟨o, c, e⟩
      obtain ⟨w5, hw5⟩ : ∃ x, wo.alloc (.cells #[.int .i64 (s : Int), .int .i64 (t : Int), .slice ov word.length cv] TPr) = x := ⟨_, rfl⟩
      have P5 := Pt.newA wo TPr #[.int .i64 (s : Int), .int .i64 (t : Int), .slice ov word.length cv]
      rw [hw5] at P5
      have F5 : Fr [] wo w5 := by rw [← hw5]; exact (Fr.refl [] wo).alloc _
      have hI5 := hI.frz F5
      have hvn5 := hvn.nin.fr F5
      obtain ⟨bv, hbv⟩ : ∃ x, wo.heap.size = x := ⟨_, rfl⟩
      rw [hbv] at P5
      have hbvo : bv ∉ (some bq).toList := by simp; omega
      have kt5 := hI5.p1.cell
      obtain ⟨FD, hFD⟩ : ∃ R, findD 0 (row.zip sow) = R := ⟨_, rfl⟩
      rw [hFD] at hW2
      have hwl6 : word.length < 100000 := by omega
      replace hu := Lib.hid hu; replace hv := Lib.hid hv; replace hcells := Lib.hid hcells; replace hcells3 := Lib.hid hcells3; replace hW2 := Lib.hid hW2; replace hW := Lib.hid hW; replace hO := Lib.hid hO; replace hI := Lib.hid hI; replace hI5 := Lib.hid hI5; replace hrow := Lib.hid hrow; replace hsow := Lib.hid hsow; replace hLi := Lib.hid hLi; replace hcB := Lib.hid hcB; replace hcC := Lib.hid hcC; replace hMi := Lib.hid hMi; replace hFD := Lib.hid hFD; replace P5 := Lib.hid P5; replace F5 := Lib.hid F5; replace hvn := Lib.hid hvn; replace hvn5 := Lib.hid hvn5; replace hsl := Lib.hid hsl; replace hrl2 := Lib.hid hrl2; replace hrl3 := Lib.hid hrl3; replace hbvo := Lib.hid hbvo
      go_wp2_with fail
      clear kt5 cq1 cq2 cq3 hw5
      replace hbv := Lib.hid hbv
      go_loopg [13] (row.length + 1) (fun k v13 wr => ∃ (j : Nat), j ≤ row.length ∧ k + j = row.length + 1 ∧ v13 = .int .i64 j ∧ findD j ((row.zip sow).drop j) = FD ∧ Fr [] w5 wr)
      case atStart => exact ⟨0, by omega, by omega, rfl, hFD.out, Fr.refl _ _⟩
      case round =>
        obtain ⟨j, hj, hk3, rfl, hWj, hF50⟩ := hrel
        obtain ⟨w0', rfl⟩ : ∃ x : World, x = wr := ⟨_, rfl⟩
        have hI2 := hI5.out.frz hF50
        have hFr := hI2.fr
        have hP1 := hI2.p1
        have hP2 := hI2.p2
        have hPv := hF50.pt P5.out (by simp)
        by_cases hltj : j < row.length
        · have hsn := findD_step row sow j hltj (by have := hsl.out; omega)
          rw [hWj] at hsn
          have hltE : (j : Int) < A.ev := by have := hrl2.out; omega
          have hltS : j < sow.length := by have := hsl.out; omega
          have hltJ : (j : Int) < row.length := by omega
          have hltSI : (j : Int) < sow.length := by omega
          obtain ⟨B2, off2, rfl, hB2, ha1, ha2⟩ := hu.out j hltj
          obtain ⟨B3, off4, rfl, hB3, hb1, hb2⟩ := hv.out j hltS
          have hce := hcells.out _ (List.getElem_mem hltj)
          have hcf := hcells3.out _ (List.getElem_mem hltS)
          obtain ⟨⟨x1, x2⟩, hx⟩ : ∃ x, row[j] = x := ⟨_, rfl⟩
          obtain ⟨⟨y1, y2⟩, hy⟩ : ∃ x, sow[j] = x := ⟨_, rfl⟩
          rw [hx] at ha1 ha2 hce hsn
          rw [hy] at hb1 hb2 hcf hsn
          dsimp only at ha1 ha2 hb1 hb2 hce hcf
          have c1 := hFr.cell (p := ⟨BB, off + s, none⟩) hB (by simp)
          rw [hcB.out] at c1
          have c2 := hFr.cell (p := ⟨BC, off3 + t, none⟩) hC (by simp)
          rw [hcC.out] at c2
          have c3 := hFr.cell (p := ⟨B2, off2 + j * 2, none⟩) hB2 (by simp)
          rw [ha1] at c3
          have c4 := hFr.cell (p := ⟨B2, off2 + j * 2 + 1, none⟩) hB2 (by simp)
          rw [ha2] at c4
          have c5 := hFr.cell (p := ⟨B3, off4 + j * 2, none⟩) hB3 (by simp)
          rw [hb1] at c5
          have c6 := hFr.cell (p := ⟨B3, off4 + j * 2 + 1, none⟩) hB3 (by simp)
          rw [hb2] at c6
          have kt := hP1.cell
          have ku := hP2.cell
          have kv := hPv.cell
          have hs2 := hFr.size
          have l1 : BB < w0'.heap.size := by omega
          have l2 : BC < w0'.heap.size := by omega
          have l3 : B2 < w0'.heap.size := by omega
          have l4 : B3 < w0'.heap.size := by omega
          have l5 : b1 < w0'.heap.size := hP1.lt
          have l6 : b2 < w0'.heap.size := hP2.lt
          have l7 : bv < w0'.heap.size := hPv.lt
          have kt1 : w0'.cell? ⟨b1, 1, none⟩ = some (.int .i64 A.ev) := by rw [kt]; rfl
          obtain ⟨e1, e2, e3, e4, e5⟩ := hce
          obtain ⟨d1, d2, d3, d4, d5⟩ := hcf
          have SS : ∀ W, Fr [] w0' W → W.cell? ⟨b1, 3, none⟩ = some (.slice (some ⟨BB, off, none⟩) A.rows.length capA) ∧ W.cell? ⟨b2, 3, none⟩ = some (.slice (some ⟨BC, off3, none⟩) B.rows.length capB) ∧ W.cell? ⟨bv, 0, none⟩ = some (.int .i64 (s : Int)) ∧ W.cell? ⟨bv, 1, none⟩ = some (.int .i64 (t : Int)) ∧ W.cell? ⟨BB, off + s, none⟩ = some (.slice (some ⟨B2, off2, none⟩) row.length cap2) ∧ W.cell? ⟨BC, off3 + t, none⟩ = some (.slice (some ⟨B3, off4, none⟩) sow.length cap3) ∧ W.cell? ⟨B2, off2 + j * 2, none⟩ = some (.int .i64 x1) ∧ W.cell? ⟨B2, off2 + j * 2 + 1, none⟩ = some (.int .i64 x2) ∧ W.cell? ⟨B3, off4 + j * 2, none⟩ = some (.int .i64 y1) ∧ W.cell? ⟨B3, off4 + j * 2 + 1, none⟩ = some (.int .i64 y2) := fun W f => by
            refine ⟨?_, ?_, ?_, ?_, ?_, ?_, ?_, ?_, ?_, ?_⟩
            · rw [f.cell (p := ⟨b1, 3, none⟩) l5 (by simp), kt]; rfl
            · rw [f.cell (p := ⟨b2, 3, none⟩) l6 (by simp), ku]; rfl
            · rw [f.cell (p := ⟨bv, 0, none⟩) l7 (by simp), kv]; rfl
            · rw [f.cell (p := ⟨bv, 1, none⟩) l7 (by simp), kv]; rfl
            · rw [f.cell (p := ⟨BB, off + s, none⟩) l1 (by simp)]; exact c1
            · rw [f.cell (p := ⟨BC, off3 + t, none⟩) l2 (by simp)]; exact c2
            · rw [f.cell (p := ⟨B2, off2 + j * 2, none⟩) l3 (by simp)]; exact c3
            · rw [f.cell (p := ⟨B2, off2 + j * 2 + 1, none⟩) l3 (by simp)]; exact c4
            · rw [f.cell (p := ⟨B3, off4 + j * 2, none⟩) l4 (by simp)]; exact c5
            · rw [f.cell (p := ⟨B3, off4 + j * 2 + 1, none⟩) l4 (by simp)]; exact c6
          replace SS := Lib.hid SS
          clear ha1 ha2 hb1 hb2 hs2 c1 c2 c3 c4 c5 c6 kt ku kv l1 l2 l3 l4 l5 l6 l7
          replace hx := Lib.hid hx; replace hy := Lib.hid hy; replace e5 := Lib.hid e5; replace d5 := Lib.hid d5; replace hsn := Lib.hid hsn
          replace hWj := Lib.hid hWj; replace hI2 := Lib.hid hI2; replace hF50 := Lib.hid hF50; replace hFr := Lib.hid hFr; replace hP1 := Lib.hid hP1; replace hP2 := Lib.hid hP2; replace hPv := Lib.hid hPv
          go_upto_region 9 with fail
          go_cut [14, 15] from 41 to 58 (fun v14 v15 wx => ∃ bx b3, v14 = .pointer (some ⟨bx, 0, none⟩) ∧ v15 = .pointer (some ⟨b3, 0, none⟩) ∧ Pt wx bx RRow [.int .i64 x1, .int .i64 x2] ∧ Pt wx b3 RRow [.int .i64 y1, .int .i64 y2] ∧ Fr [] w0' wx ∧ w0'.heap.size ≤ bx ∧ w0'.heap.size ≤ b3)
          case first =>
            as_aux_lemma =>
            clear kt1
            go_region_held3 (fun W => W.cell? ⟨b1, 3, none⟩ = some (.slice (some ⟨BB, off, none⟩) A.rows.length capA) ∧ W.cell? ⟨b2, 3, none⟩ = some (.slice (some ⟨BC, off3, none⟩) B.rows.length capB) ∧ W.cell? ⟨bv, 0, none⟩ = some (.int .i64 (s : Int)) ∧ W.cell? ⟨bv, 1, none⟩ = some (.int .i64 (t : Int)) ∧ W.cell? ⟨BB, off + s, none⟩ = some (.slice (some ⟨B2, off2, none⟩) row.length cap2) ∧ W.cell? ⟨BC, off3 + t, none⟩ = some (.slice (some ⟨B3, off4, none⟩) sow.length cap3) ∧ W.cell? ⟨B2, off2 + j * 2, none⟩ = some (.int .i64 x1) ∧ W.cell? ⟨B2, off2 + j * 2 + 1, none⟩ = some (.int .i64 x2) ∧ W.cell? ⟨B3, off4 + j * 2, none⟩ = some (.int .i64 y1) ∧ W.cell? ⟨B3, off4 + j * 2 + 1, none⟩ = some (.int .i64 y2))
              ((refine SS.out _ ?_; repeat (first | exact Fr.refl _ _ | refine Fr.drew ?_ | refine Fr.alloc ?_ _ | (refine Fr.setCell ?_ (.inr (by simp)) _))))
              (fail)
            all_goals
              go_wp2_with fail
              go_meet
              case rel =>
                first
                | exact ⟨_, _, rfl, rfl, ((Pt.newA w0' RRow #[.int .i64 x1, .int .i64 x2]).alloc _).drew, (Pt.newAt _ RRow #[.int .i64 y1, .int .i64 y2] (by simp)).drew, (((Fr.refl _ _).alloc _).alloc _).drew, by simp, by simp⟩
                | exact ⟨_, _, rfl, rfl, (Pt.newAt _ RRow #[.int .i64 x1, .int .i64 x2] (by simp)).drew, ((Pt.newA w0' RRow #[.int .i64 y1, .int .i64 y2]).alloc _).drew, (((Fr.refl _ _).alloc _).alloc _).drew, by simp, by simp⟩
          case rest =>
            obtain ⟨bx, b3, rfl, rfl, Px, Py, Fx, lx, ly⟩ := hcut
            clear SS kt1
            obtain ⟨wx, rfl⟩ : ∃ x : World, x = wc := ⟨_, rfl⟩
            have kx := Px.cell
            have ky := Py.cell
            have F5x := hF50.out.trans Fx
            replace Px := Lib.hid Px; replace Py := Lib.hid Py; replace Fx := Lib.hid Fx; replace F5x := Lib.hid F5x
            go_upto_region 10 with fail
            obtain ⟨df, hdf⟩ : ∃ q, diffR (x1, x2) (y1, y2) = q := ⟨_, rfl⟩
            go_cut [72] from 59 to 71 (fun v80 wz => v80 = .bool df ∧ wz = wx)
            case first =>
              as_aux_lemma =>
              have hdf2 : df = ((decide (x1 < 0) != decide (y1 < 0)) || (x2 != y2)) := by rw [← hdf]; rfl
              clear hdf
              replace hdf2 := Lib.hid hdf2
              obtain ⟨dx, hdx⟩ : ∃ q, decide (x1 < 0) = q := ⟨_, rfl⟩
              obtain ⟨dy, hdy⟩ : ∃ q, decide (y1 < 0) = q := ⟨_, rfl⟩
              cases dx
              all_goals
                first | have hx1 := of_decide_eq_true hdx | have hx1 := of_decide_eq_false hdx
                replace hdx := Lib.hid hdx
                cases dy
                all_goals
                  first | have hy1 := of_decide_eq_true hdy | have hy1 := of_decide_eq_false hdy
                  have hdy' := Lib.hid hdy
                  clear hdy
                  cases hq : x2 == y2
                  all_goals
                    have hq2 : (x2 != y2) = !(x2 == y2) := rfl
                    rw [hq] at hq2
                    simp only [Bool.not_true, Bool.not_false] at hq2
                    go_wp2_with fail
                    go_meet
                    case rel => exact ⟨by rw [hdf2.out, hdx.out, hdy'.out, hq2]; rfl, rfl⟩
            case rest =>
              obtain ⟨rfl, hwc⟩ := hcut
              subst hwc
              clear kx ky
              cases df
              · as_aux_lemma =>
                have hsn2 := hsn.out
                rw [hdf, if_neg (by simp)] at hsn2
                replace hsn2 := Lib.hid hsn2
                clear hdf
                go_wp2_with fail
                go_roundg (gk - 1)
                case measure => omega
                case rel => exact ⟨j + 1, by omega, by omega, by go_num, hsn2.out.symm, F5x.out⟩
              · as_aux_lemma =>
                have hsn2 := hsn.out
                rw [hdf, if_pos rfl] at hsn2
                have hX2 := hW2.out
                rw [hsn2] at hX2
                have hX3 : X = some (word ++ [(j : Int)]) := hX2.symm
                subst hX3
                have kv2 := (F5x.out.pt P5.out (by simp)).cell
                have CL := rcopy_any _ word wc (hvn5.out.fr F5x.out) (by omega)
                replace CL := Lib.hid CL; replace hsn2 := Lib.hid hsn2
                clear hX2 hdf
                go_wp2_with fail
                refine CL.out.mono ?_
                rintro e w6 ⟨v6, b6, rfl, r6, hb6, f6⟩
                obtain ⟨v7, w7, b7, happ, r7, hb7, f7⟩ := r6.one (by omega) (j : Int)
                have F67 : Fr [] wc w7 := f6.step f7 (fun z hz => .inr (hb6 z (by simpa using hz)))
                have ND : DiffR (some (word ++ [(j : Int)])) w (.returned (.tuple #[v7, .bool true])) w7 := ⟨_, rfl, r7.ninc, ((hI5.out.fr.trans F5x.out).trans F67)⟩
                replace ND := Lib.hid ND; replace r6 := Lib.hid r6; replace hb6 := Lib.hid hb6; replace f6 := Lib.hid f6; replace happ := Lib.hid happ; replace r7 := Lib.hid r7; replace hb7 := Lib.hid hb7; replace f7 := Lib.hid f7; replace F67 := Lib.hid F67
                clear kv2
                go_wp2_with (first | (at_builtin; refine wpList_append_run _ rfl _ _ _ rfl rfl rfl happ.out ?_))
                go_ret2
                exact ND.out
        · have hltJ : ¬ (j : Int) < A.ev := by have := hrl2.out; omega
          rw [List.drop_eq_nil_of_le (by simp; omega)] at hWj
          have hFDn : FD = none := hWj.symm
          subst hFDn
          have hX2 : dfF A B g' (i + 1) (pushAll word 0 (row.zip sow) L) = X := hW2.out
          have hnod := findD_none row sow 0 hFD.out
          obtain ⟨PL, hPL⟩ : ∃ x, pushAll word 0 (row.zip sow) L = x := ⟨_, rfl⟩
          rw [hPL] at hX2
          have kt := hP1.cell
          have hO2' := hO
          replace hnod := Lib.hid hnod; replace hPL := Lib.hid hPL; replace hX2 := Lib.hid hX2; replace hWj := Lib.hid hWj; replace hI2 := Lib.hid hI2; replace hF50 := Lib.hid hF50; replace hFr := Lib.hid hFr; replace hP1 := Lib.hid hP1; replace hP2 := Lib.hid hP2; replace hPv := Lib.hid hPv
          go_wp2_with fail
          clear kt
          go_loopg [10, 16] (row.length + 1) (fun k v10 v16 wr => ∃ (j : Nat) (bo : Option Nat) (L2 : List Vis) (M2 : List ((Int × Int) × Value)), j ≤ row.length ∧ k + j = row.length + 1 ∧ v16 = .int .i64 j ∧ pushAll word j ((row.zip sow).drop j) L2 = PL ∧ i < L2.length ∧ L2[i]? = some (((s : Int), (t : Int)), word) ∧ M2[i]? = some (((s : Int), (t : Int)), .slice ov word.length cv) ∧ DvOk A B L2 ∧ RfI A B w b1 b2 (.slice (some ⟨BB, off, none⟩) A.rows.length capA) (.slice (some ⟨BC, off3, none⟩) B.rows.length capB) L2 M2 wr v10 bo ∧ Pt wr bv TPr [.int .i64 (s : Int), .int .i64 (t : Int), .slice ov word.length cv] ∧ bv ∉ bo.toList)
          case atStart => exact ⟨0, _, _, _, by omega, by omega, rfl, hPL.out, hlt, by rw [List.getElem?_eq_getElem hlt, hLi.out], hMi.out, hO.out, hI2.out, hPv.out, hbvo.out⟩
          clear hI2 hFr hP1 hP2 hPv hltj hltJ hk3 hj
          case round =>
            obtain ⟨j, bo2, L2, M2, hj, hk3, rfl, hWj, hL2, hLi2, hMi2, hO2, hI2, hPv, hbv2⟩ := hrel
            obtain ⟨w0', rfl⟩ : ∃ x : World, x = wr := ⟨_, rfl⟩
            have hFr := hI2.fr
            have hP1 := hI2.p1
            have hP2 := hI2.p2
            by_cases hltj : j < row.length
            · have hsn := pushAll_step word row sow L2 j hltj (by have := hsl.out; omega)
              rw [hWj] at hsn
              have hnd := hnod.out j hltj (by have := hsl.out; omega)
              have hltE : (j : Int) < A.ev := by have := hrl2.out; omega
              have hltS : j < sow.length := by have := hsl.out; omega
              have hltJ : (j : Int) < row.length := by omega
              have hltSI : (j : Int) < sow.length := by omega
              obtain ⟨B2, off2, rfl, hB2, ha1, ha2⟩ := hu.out j hltj
              obtain ⟨B3, off4, rfl, hB3, hb1, hb2⟩ := hv.out j hltS
              have hce := hcells.out _ (List.getElem_mem hltj)
              have hcf := hcells3.out _ (List.getElem_mem hltS)
              obtain ⟨⟨x1, x2⟩, hx⟩ : ∃ x, row[j] = x := ⟨_, rfl⟩
              obtain ⟨⟨y1, y2⟩, hy⟩ : ∃ x, sow[j] = x := ⟨_, rfl⟩
              rw [hx] at ha1 ha2 hce hsn
              rw [hy] at hb1 hb2 hcf hsn
              dsimp only at ha1 ha2 hb1 hb2 hce hcf
              have c1 := hFr.cell (p := ⟨BB, off + s, none⟩) hB (by simp)
              rw [hcB.out] at c1
              have c2 := hFr.cell (p := ⟨BC, off3 + t, none⟩) hC (by simp)
              rw [hcC.out] at c2
              have c3 := hFr.cell (p := ⟨B2, off2 + j * 2, none⟩) hB2 (by simp)
              rw [ha1] at c3
              have c4 := hFr.cell (p := ⟨B2, off2 + j * 2 + 1, none⟩) hB2 (by simp)
              rw [ha2] at c4
              have c5 := hFr.cell (p := ⟨B3, off4 + j * 2, none⟩) hB3 (by simp)
              rw [hb1] at c5
              have c6 := hFr.cell (p := ⟨B3, off4 + j * 2 + 1, none⟩) hB3 (by simp)
              rw [hb2] at c6
              have kt := hP1.cell
              have ku := hP2.cell
              have kv := hPv.cell
              have hs2 := hFr.size
              have l1 : BB < w0'.heap.size := by omega
              have l2 : BC < w0'.heap.size := by omega
              have l3 : B2 < w0'.heap.size := by omega
              have l4 : B3 < w0'.heap.size := by omega
              have l5 : b1 < w0'.heap.size := hP1.lt
              have l6 : b2 < w0'.heap.size := hP2.lt
              have l7 : bv < w0'.heap.size := hPv.lt
              have kt1 : w0'.cell? ⟨b1, 1, none⟩ = some (.int .i64 A.ev) := by rw [kt]; rfl
              obtain ⟨e1, e2, e3, e4, e5⟩ := hce
              obtain ⟨d1, d2, d3, d4, d5⟩ := hcf
              have SS : ∀ W, Fr [] w0' W → W.cell? ⟨b1, 3, none⟩ = some (.slice (some ⟨BB, off, none⟩) A.rows.length capA) ∧ W.cell? ⟨b2, 3, none⟩ = some (.slice (some ⟨BC, off3, none⟩) B.rows.length capB) ∧ W.cell? ⟨bv, 0, none⟩ = some (.int .i64 (s : Int)) ∧ W.cell? ⟨bv, 1, none⟩ = some (.int .i64 (t : Int)) ∧ W.cell? ⟨BB, off + s, none⟩ = some (.slice (some ⟨B2, off2, none⟩) row.length cap2) ∧ W.cell? ⟨BC, off3 + t, none⟩ = some (.slice (some ⟨B3, off4, none⟩) sow.length cap3) ∧ W.cell? ⟨B2, off2 + j * 2, none⟩ = some (.int .i64 x1) ∧ W.cell? ⟨B2, off2 + j * 2 + 1, none⟩ = some (.int .i64 x2) ∧ W.cell? ⟨B3, off4 + j * 2, none⟩ = some (.int .i64 y1) ∧ W.cell? ⟨B3, off4 + j * 2 + 1, none⟩ = some (.int .i64 y2) := fun W f => by
                refine ⟨?_, ?_, ?_, ?_, ?_, ?_, ?_, ?_, ?_, ?_⟩
                · rw [f.cell (p := ⟨b1, 3, none⟩) l5 (by simp), kt]; rfl
                · rw [f.cell (p := ⟨b2, 3, none⟩) l6 (by simp), ku]; rfl
                · rw [f.cell (p := ⟨bv, 0, none⟩) l7 (by simp), kv]; rfl
                · rw [f.cell (p := ⟨bv, 1, none⟩) l7 (by simp), kv]; rfl
                · rw [f.cell (p := ⟨BB, off + s, none⟩) l1 (by simp)]; exact c1
                · rw [f.cell (p := ⟨BC, off3 + t, none⟩) l2 (by simp)]; exact c2
                · rw [f.cell (p := ⟨B2, off2 + j * 2, none⟩) l3 (by simp)]; exact c3
                · rw [f.cell (p := ⟨B2, off2 + j * 2 + 1, none⟩) l3 (by simp)]; exact c4
                · rw [f.cell (p := ⟨B3, off4 + j * 2, none⟩) l4 (by simp)]; exact c5
                · rw [f.cell (p := ⟨B3, off4 + j * 2 + 1, none⟩) l4 (by simp)]; exact c6
              replace SS := Lib.hid SS
              clear ha1 ha2 hb1 hb2 hs2 c1 c2 c3 c4 c5 c6 kt ku kv l1 l2 l3 l4 l5 l6 l7
              replace hx := Lib.hid hx; replace hy := Lib.hid hy; replace e5 := Lib.hid e5; replace d5 := Lib.hid d5; replace hsn := Lib.hid hsn
              rw [hx.out, hy.out] at hnd
              have hsg := (diffR_sign hnd).1
              dsimp only at hsg
              replace hnd := Lib.hid hnd; replace hsg := Lib.hid hsg
              replace hWj := Lib.hid hWj; replace hI2 := Lib.hid hI2; replace hFr := Lib.hid hFr; replace hP1 := Lib.hid hP1; replace hP2 := Lib.hid hP2; replace hPv := Lib.hid hPv; replace hbv2 := Lib.hid hbv2; replace hO2 := Lib.hid hO2; replace hLi2 := Lib.hid hLi2; replace hMi2 := Lib.hid hMi2
              go_upto_region 15 with fail
              go_cut [17, 18] from 85 to 102 (fun v14 v15 wx => ∃ bx b3, v14 = .pointer (some ⟨bx, 0, none⟩) ∧ v15 = .pointer (some ⟨b3, 0, none⟩) ∧ Pt wx bx RRow [.int .i64 x1, .int .i64 x2] ∧ Pt wx b3 RRow [.int .i64 y1, .int .i64 y2] ∧ Fr [] w0' wx ∧ w0'.heap.size ≤ bx ∧ w0'.heap.size ≤ b3)
              case first =>
                as_aux_lemma =>
                clear kt1
                go_region_held3 (fun W => W.cell? ⟨b1, 3, none⟩ = some (.slice (some ⟨BB, off, none⟩) A.rows.length capA) ∧ W.cell? ⟨b2, 3, none⟩ = some (.slice (some ⟨BC, off3, none⟩) B.rows.length capB) ∧ W.cell? ⟨bv, 0, none⟩ = some (.int .i64 (s : Int)) ∧ W.cell? ⟨bv, 1, none⟩ = some (.int .i64 (t : Int)) ∧ W.cell? ⟨BB, off + s, none⟩ = some (.slice (some ⟨B2, off2, none⟩) row.length cap2) ∧ W.cell? ⟨BC, off3 + t, none⟩ = some (.slice (some ⟨B3, off4, none⟩) sow.length cap3) ∧ W.cell? ⟨B2, off2 + j * 2, none⟩ = some (.int .i64 x1) ∧ W.cell? ⟨B2, off2 + j * 2 + 1, none⟩ = some (.int .i64 x2) ∧ W.cell? ⟨B3, off4 + j * 2, none⟩ = some (.int .i64 y1) ∧ W.cell? ⟨B3, off4 + j * 2 + 1, none⟩ = some (.int .i64 y2))
                  ((refine SS.out _ ?_; repeat (first | exact Fr.refl _ _ | refine Fr.drew ?_ | refine Fr.alloc ?_ _ | (refine Fr.setCell ?_ (.inr (by simp)) _))))
                  (fail)
                all_goals
                  go_wp2_with fail
                  go_meet
                  case rel =>
                    first
                    | exact ⟨_, _, rfl, rfl, ((Pt.newA w0' RRow #[.int .i64 x1, .int .i64 x2]).alloc _).drew, (Pt.newAt _ RRow #[.int .i64 y1, .int .i64 y2] (by simp)).drew, (((Fr.refl _ _).alloc _).alloc _).drew, by simp, by simp⟩
                    | exact ⟨_, _, rfl, rfl, (Pt.newAt _ RRow #[.int .i64 x1, .int .i64 x2] (by simp)).drew, ((Pt.newA w0' RRow #[.int .i64 y1, .int .i64 y2]).alloc _).drew, (((Fr.refl _ _).alloc _).alloc _).drew, by simp, by simp⟩
              case rest =>
                obtain ⟨bx, b3, rfl, rfl, Px, Py, Fx, lx, ly⟩ := hcut
                clear SS kt1
                obtain ⟨wx, rfl⟩ : ∃ x : World, x = wc := ⟨_, rfl⟩
                have kx := Px.cell
                have hIx := hI2.out.frz Fx
                replace Px := Lib.hid Px; replace Py := Lib.hid Py; replace Fx := Lib.hid Fx; replace hIx := Lib.hid hIx
                go_upto_block 6 with fail
                go_cut [19, 20] from 106 to 133 (fun v19 _ wz => v19 = .bool (decide (x1 < 0) || decide ((x1, y1) ∈ L2.map (·.1))) ∧ Fr [] wx wz)
                case first =>
                  as_aux_lemma =>
                  have hle2 := hO2.out.le sa.2 sb.2
                  go_wp2_with fail
                  go_loopg [19, 20] (L2.length + 1) (fun k v19 v20 wr => ∃ (m : Nat) (kn : Bool), m ≤ L2.length ∧ k + m = L2.length + 1 ∧ v20 = .int .i64 m ∧ v19 = .bool kn ∧ (decide (x1 < 0) || decide ((x1, y1) ∈ (L2.take m).map (·.1))) = kn ∧ Fr [] wx wr)
                  case atStart => exact ⟨0, _, by omega, by omega, rfl, rfl, by simp, Fr.refl _ _⟩
                  case round =>
                    obtain ⟨m, kn, hm, hkm, rfl, rfl, hkn, hFm⟩ := hrel
                    obtain ⟨wl, rfl⟩ : ∃ wl : World, wl = wr := ⟨_, rfl⟩
                    have hIm := hIx.out.frz hFm
                    have kp := (hFm.pt Px.out (by simp)).cell
                    have kq := (hFm.pt Py.out (by simp)).cell
                    obtain ⟨oo, n, co, hus, hn0⟩ : ∃ oo n co, u10 = .slice oo n co ∧ n = L2.length := by
                      obtain ⟨oo, co, e⟩ := hIm.q.len
                      exact ⟨oo, _, co, e, hIm.mlen⟩
                    subst hus
                    replace hFm := Lib.hid hFm; replace hkn := Lib.hid hkn; replace hn0 := Lib.hid hn0
                    clear kx
                    by_cases hltm : m < L2.length
                    · have hltmI : (m : Int) < n := by have := hn0.out; omega
                      have hm0 : (0 : Int) ≤ (m : Int) := by omega
                      have hmn : (m : Int) ≤ (n : Int) := by omega
                      cases kn
                      · obtain ⟨bq2, oq2, cq2, vw2, _, hsl2, hbq2, g1, g2, _, _, _⟩ := hIm.at hltm
                        obtain ⟨rfl, rfl, rfl⟩ : oo = some ⟨bq2, oq2, none⟩ ∧ n = L2.length ∧ co = cq2 := by
                          simp at hsl2; exact ⟨hsl2.1, hsl2.2.1, hsl2.2.2⟩
                        have hnx : (decide (x1 < 0) || decide ((x1, y1) ∈ (L2.take (m + 1)).map (·.1))) = (L2[m].1.1 == x1 && L2[m].1.2 == y1) := by
                          have h0 := hkn.out
                          simp only [Bool.or_eq_false_iff] at h0
                          have h1 := of_decide_eq_false h0.2
                          rw [h0.1, Bool.false_or, List.take_succ_eq_append_getElem hltm, List.map_append, Bool.eq_iff_iff]
                          simp only [decide_eq_true_eq, List.mem_append, h1, false_or, List.map_cons, List.map_nil, List.mem_singleton, Bool.and_eq_true, beq_iff_eq]
                          constructor
                          · intro h; rw [← h]; exact ⟨rfl, rfl⟩
                          · rintro ⟨h1, h2⟩; rw [← h1, ← h2]
                        obtain ⟨⟨⟨z1, z2⟩, zw⟩, hl⟩ : ∃ x, L2[m] = x := ⟨_, rfl⟩
                        rw [hl] at g1 g2 hnx
                        dsimp only at g1 g2 hnx
                        replace hl := Lib.hid hl; replace hIm := Lib.hid hIm
                        clear hsl2
                        cases hq : z1 == x1
                        · rw [hq, Bool.false_and] at hnx
                          have hq3 : (z1 != x1) = true := by simp [bne, hq]
                          replace hnx := Lib.hid hnx
                          go_wp2_with fail
                          go_quiet (fail)
                          go_wp2_with fail
                          go_roundg (gk - 1)
                          case measure => omega
                          case rel => exact ⟨m + 1, false, by omega, by omega, by go_num, rfl, hnx.out, hFm.out.drewN _⟩
                        · rw [hq, Bool.true_and] at hnx
                          replace hnx := Lib.hid hnx
                          cases hq2 : z2 == y1
                          all_goals
                            go_wp2_with fail
                            go_quiet (fail)
                            go_wp2_with fail
                            go_roundg (gk - 1)
                            case measure => omega
                            case rel => exact ⟨m + 1, _, by omega, by omega, by go_num, rfl, by rw [hnx.out, hq2], hFm.out.drewN _⟩
                      · have hmem : (decide (x1 < 0) || decide ((x1, y1) ∈ L2.map (·.1))) = true := by
                          have h0 := hkn.out
                          rw [Bool.or_eq_true] at h0 ⊢
                          rcases h0 with h0 | h0
                          · exact .inl h0
                          · refine .inr (decide_eq_true ?_)
                            obtain ⟨z, hz, he⟩ := List.mem_map.mp (of_decide_eq_true h0)
                            exact List.mem_map.mpr ⟨z, List.mem_of_mem_take hz, he⟩
                        replace hmem := Lib.hid hmem; replace hIm := Lib.hid hIm
                        go_wp2_with fail
                        go_meet
                        case rel => exact ⟨by rw [hmem.out], hFm.out⟩
                    · have hltmI : ¬ (m : Int) < n := by have := hn0.out; omega
                      have hk2 := hkn.out
                      rw [List.take_of_length_le (by omega)] at hk2
                      replace hk2 := Lib.hid hk2; replace hIm := Lib.hid hIm
                      go_wp2_with fail
                      go_meet
                      case rel => exact ⟨by rw [hk2.out], hFm.out⟩
                case rest =>
                  obtain ⟨rfl, Fk⟩ := hcut
                  obtain ⟨wk, rfl⟩ : ∃ x : World, x = wc := ⟨_, rfl⟩
                  have Fxk := Fx.out.trans Fk
                  have hIk := hIx.out.frz Fk
                  have hsn2 := hsn.out
                  clear kx
                  by_cases hkn : x1 < 0 ∨ (x1, y1) ∈ L2.map (·.1)
                  · as_aux_lemma =>
                    have hpu : pushV word j (x1, x2) (y1, y2) L2 = L2 := by
                      unfold pushV
                      dsimp only
                      split
                      · rfl
                      · rw [if_pos (hkn.resolve_left ‹_›)]
                    rw [hpu] at hsn2
                    have hd : (decide (x1 < 0) || decide ((x1, y1) ∈ L2.map (·.1))) = true := by
                      rw [Bool.or_eq_true]
                      exact hkn.imp decide_eq_true decide_eq_true
                    rw [hd]
                    have hPk := Fxk.pt hPv.out (by simp)
                    replace hsn2 := Lib.hid hsn2; replace hpu := Lib.hid hpu; replace hkn := Lib.hid hkn; replace hd := Lib.hid hd; replace Fxk := Lib.hid Fxk; replace hIk := Lib.hid hIk; replace Fk := Lib.hid Fk; replace hPk := Lib.hid hPk
                    go_wp2_with fail
                    go_roundg (gk - 1)
                    case measure => omega
                    case rel => exact ⟨j + 1, _, _, _, by omega, by omega, by go_num, hsn2.out.symm, hL2, hLi2.out, hMi2.out, hO2.out, hIk.out, hPk.out, hbv2.out⟩
                  · have hx1 : ¬ x1 < 0 := fun h => hkn (.inl h)
                    have hin : (x1, y1) ∉ L2.map (·.1) := fun h => hkn (.inr h)
                    have hy1 : ¬ y1 < 0 := fun h => hx1 (hsg.out.mpr h)
                    have hd : (decide (x1 < 0) || decide ((x1, y1) ∈ L2.map (·.1))) = false := by
                      rw [decide_eq_false hx1, decide_eq_false hin]; rfl
                    rw [hd]
                    have hpu : pushV word j (x1, x2) (y1, y2) L2 = L2 ++ [((x1, y1), word ++ [(j : Int)])] := by unfold pushV; rw [if_neg hx1, if_neg hin]
                    rw [hpu] at hsn2
                    have hxr : 0 ≤ ((x1, y1) : Int × Int).1 ∧ ((x1, y1) : Int × Int).1 < A.st ∧ 0 ≤ ((x1, y1) : Int × Int).2 ∧ ((x1, y1) : Int × Int).2 < B.st := by dsimp only; omega
                    have hO3 := hO2.out.step (x1, y1) (word ++ [(j : Int)]) hxr hin (by have := hO2.out.len i hL2; have h2 := hLi2.out; rw [List.getElem?_eq_getElem hL2] at h2; rw [Option.some.inj h2] at this; simp at this ⊢; omega)
                    have hle2 := hO2.out.le sa.2 sb.2
                    have hbl : ∀ z, w0'.heap.size ≤ z → z ∉ bo2.toList := fun z hz hm => by
                      have h3 := hI2.out.q
                      rw [show bo2 = some z by simpa using hm] at h3
                      have := h3.lt; omega
                    have Pxk := Fk.pt Px.out (by simp)
                    have Pyk := Fk.pt Py.out (by simp)
                    have Pvk := Fxk.pt hPv.out (by simp)
                    have hvk : NIn wk (.slice ov word.length cv) word := by
                      have hml := hIk.mlen
                      have h1 : i < M2.length := by omega
                      have h2 := hIk.val i h1 hL2
                      rw [show M2[i] = (((s : Int), (t : Int)), Value.slice ov word.length cv) by have := hMi2.out; rw [List.getElem?_eq_getElem h1] at this; exact Option.some.inj this] at h2
                      rw [show L2[i] = (((s : Int), (t : Int)), word) by have := hLi2.out; rw [List.getElem?_eq_getElem hL2] at this; exact Option.some.inj this] at h2
                      exact h2.nin
                    have CL : ∀ W, Fr [] wk W → Calls Try.prog 84 #[.slice ov word.length cv] W fun e w' => ∃ v' b', e = .returned v' ∧ Row 1 w' v' word.length (ints word) b' ∧ (∀ z, b' = some z → wk.heap.size ≤ z) ∧ Fr [] wk w' ∧ Fr [] W w' := fun W f =>
                      (rcopy_any _ word W (hvk.fr f) (by omega)).mono (fun e w' h => by
                        obtain ⟨v', b', h1, h2, h3, h4⟩ := h
                        exact ⟨v', b', h1, h2, fun z hz => by have := h3 z hz; have := f.size; omega, f.trans h4, h4⟩)
                    have KA : ∀ W, Fr [] wk W → W.cell? ⟨bx, 0, none⟩ = some (.int .i64 x1) ∧ W.cell? ⟨b3, 0, none⟩ = some (.int .i64 y1) ∧ W.cell? ⟨bv, 2, none⟩ = some (.slice ov word.length cv) := fun W f => by
                      have h1 := (f.pt Pxk (by simp)).cell 0
                      have h2 := (f.pt Pyk (by simp)).cell 0
                      have h3 := (f.pt Pvk (by simp)).cell 2
                      exact ⟨by rw [h1]; rfl, by rw [h2]; rfl, by rw [h3]; rfl⟩
                    have KB : ∀ (w9 : World) (bo9 : List Nat), (∀ z T cs, Pt wk z T cs → z ∉ bo2.toList → Pt w9 z T cs ∧ z ∉ bo9) → w9.cell? ⟨bx, 0, none⟩ = some (.int .i64 x1) ∧ w9.cell? ⟨b3, 0, none⟩ = some (.int .i64 y1) ∧ w9.cell? ⟨bv, 2, none⟩ = some (.slice ov word.length cv) := fun w9 bo9 hK => by
                      have h1 := (hK _ _ _ Pxk (hbl _ lx)).1.cell 0
                      have h2 := (hK _ _ _ Pyk (hbl _ ly)).1.cell 0
                      have h3 := (hK _ _ _ Pvk hbv2.out).1.cell 2
                      exact ⟨by rw [h1]; rfl, by rw [h2]; rfl, by rw [h3]; rfl⟩
                    have PUT := fun (W : World) (v2 : Value) (b2' : Option Nat) (bs : Nat) (f : Fr [] wk W) hr hb hp => hIk.put2 (by omega) (x1, y1) word (by omega) (j : Int) W v2 b2' bs f hr hb hp
                    have hL3 : (L2 ++ [((x1, y1), word ++ [(j : Int)])])[i]? = some (((s : Int), (t : Int)), word) := by rw [List.getElem?_append_left hL2]; exact hLi2.out
                    have hM3 : ∀ z, (M2 ++ [((x1, y1), z)])[i]? = some (((s : Int), (t : Int)), .slice ov word.length cv) := fun z => by rw [List.getElem?_append_left (by have := hIk.mlen; omega)]; exact hMi2.out
                    have hL2' : i < (L2 ++ [((x1, y1), word ++ [(j : Int)])]).length := by simp; omega
                    have Pvk' := Lib.hid Pvk
                    dsimp only at PUT
                    replace CL := Lib.hid CL; replace KA := Lib.hid KA; replace KB := Lib.hid KB; replace PUT := Lib.hid PUT; replace hsn2 := Lib.hid hsn2; replace hO3 := Lib.hid hO3; replace hL3 := Lib.hid hL3; replace hM3 := Lib.hid hM3; replace hpu := Lib.hid hpu; replace hkn := Lib.hid hkn; replace hin := Lib.hid hin; replace hd := Lib.hid hd; replace hxr := Lib.hid hxr; replace hbl := Lib.hid hbl; replace hvk := Lib.hid hvk; replace hIk := Lib.hid hIk; replace Fxk := Lib.hid Fxk; replace Fk := Lib.hid Fk; replace hL2' := Lib.hid hL2'
                    clear Pxk Pyk Pvk
                    go_upto_region 22 with fail
                    go_region_held3 (fun W => W.cell? ⟨bx, 0, none⟩ = some (.int .i64 x1) ∧ W.cell? ⟨b3, 0, none⟩ = some (.int .i64 y1) ∧ W.cell? ⟨bv, 2, none⟩ = some (.slice ov word.length cv))
                      (first | exact KZ9.out | exact KA.out _ ((Fr.refl _ _).drew) | exact KA.out _ F5.out | exact KA.out _ (F5.out.alloc _) | exact KA.out _ F2.out | exact KA.out _ (F2.out.alloc _) | exact KA.out _ (((Fr.refl _ _).alloc _).drew) | exact KA.out _ (((Fr.refl _ _).drew).alloc _))
                      ((first
                        | (refine step_append_run rfl _ _ _ rfl (v := u10) rfl (xv := .slice (some ⟨w5.heap.size, 0, none⟩) 1 1) rfl happ2.out ?_
                           have KZ9 := Lib.hid (KB.out _ _ hK.out))
                        | (obtain ⟨o5, n5, c5, w5, v', w9, bo', happ, F5, hn5, happ2, hI9, hK⟩ := PUT.out _ v2 b2' _ (F2.out.alloc _) (hR2.out.fr ((Fr.refl [] w2).alloc _) (by simp)) hb2.out (Pt.newA w2 3 #[.int .i64 (j : Int)])
                           replace F5 := Lib.hid F5; replace hn5 := Lib.hid hn5; replace happ2 := Lib.hid happ2; replace hI9 := Lib.hid hI9; replace hK := Lib.hid hK
                           refine step_append_run rfl _ _ _ rfl (v := v2) rfl (xv := .slice (some ⟨w2.heap.size, 0, none⟩) 1 1) rfl happ ?_
                           clear happ)
                        | (obtain ⟨o5, n5, c5, w5, v', w9, bo', happ, F5, hn5, happ2, hI9, hK⟩ := PUT.out _ v2 b2' _ F2.out hR2.out hb2.out (f2.out.pt (Pt.newA wk 3 #[.int .i64 (j : Int)]).drew (by simp))
                           replace F5 := Lib.hid F5; replace hn5 := Lib.hid hn5; replace happ2 := Lib.hid happ2; replace hI9 := Lib.hid hI9; replace hK := Lib.hid hK
                           refine step_append_run rfl _ _ _ rfl (v := v2) rfl (xv := .slice (some ⟨wk.heap.size, 0, none⟩) 1 1) rfl happ ?_
                           clear happ)
                        | (go_at_call 84
                           refine (CL.out _ (by first | exact (Fr.refl _ _).drew | exact ((Fr.refl _ _).alloc _).drew | exact ((Fr.refl _ _).drew).alloc _)).mono ?_
                           rintro e w2 ⟨v2, b2', rfl, hR2, hb2, F2, f2⟩
                           replace hR2 := Lib.hid hR2; replace hb2 := Lib.hid hb2; replace F2 := Lib.hid F2; replace f2 := Lib.hid f2)))
                    all_goals
                      obtain ⟨hPv9, hbv9⟩ := hK.out _ _ _ Pvk'.out hbv2.out
                      replace hPv9 := Lib.hid hPv9; replace hbv9 := Lib.hid hbv9
                      go_wp2_with fail
                      go_roundg (gk - 1)
                      case measure => omega
                      case rel => exact ⟨j + 1, _, _, _, by omega, by omega, by go_num, hsn2.out.symm, hL2'.out, hL3.out, hM3.out _, hO3.out, hI9.out, hPv9.out, hbv9.out⟩
            · as_aux_lemma =>
              have hltJ : ¬ (j : Int) < A.ev := by have := hrl2.out; omega
              rw [List.drop_eq_nil_of_le (by simp; omega)] at hWj
              have hLP : L2 = PL := hWj
              have hX3 := hX2.out
              rw [← hLP] at hX3
              have kt := hP1.cell
              have hle2 := hO2.le sa.2 sb.2
              clear hWj hLP
              replace hX3 := Lib.hid hX3; replace hI2 := Lib.hid hI2; replace hO2 := Lib.hid hO2; replace hLi2 := Lib.hid hLi2; replace hMi2 := Lib.hid hMi2; replace hPv := Lib.hid hPv; replace hbv2 := Lib.hid hbv2; replace hP1 := Lib.hid hP1; replace hP2 := Lib.hid hP2; replace hFr := Lib.hid hFr
              go_wp2_with fail
              go_roundg g'
              case measure => omega
              case rel => exact ⟨i + 1, _, _, _, by go_num, by omega, hX3.out, by omega, hO2.out, hI2.out⟩
    · as_aux_lemma =>
      have hltI : ¬ (i : Int) < L.length := by omega
      have hT : X = none := by rw [← hW, dfF_more _ _ _ _ _ (by omega)]
      obtain ⟨oo, n, co, rfl, hn0⟩ : ∃ oo n co, u10 = .slice oo n co ∧ n = L.length := by
        obtain ⟨oo, co, e⟩ := hI.q.len
        exact ⟨oo, _, co, e, hI.mlen⟩
      subst hn0
      subst hT
      have ND : ∀ (e : Ending) (W : World), e = .returned (.tuple #[.slice none 0 0, .bool false]) → Fr [] w W → DiffR none w e W := fun e W h1 h2 => ⟨_, h1, ninc_nil _, h2⟩
      replace hI := Lib.hid hI; replace hO := Lib.hid hO; replace hW := Lib.hid hW; replace ND := Lib.hid ND
      go_wp2_with fail
      go_ret2
      exact ND.out _ _ rfl hI.out.fr
end Go.Proofs.Ytnggimkkjdipmaa
namespace Go.Proofs.Ytnggimkkjdipmaa
open Go.RowKit
set_option linter.unusedVariables false
set_option linter.unusedSimpArgs false
set_option maxHeartbeats 16000000
set_option maxRecDepth 100000
theorem rDiffer_any (A B : Tb) (va vb : Value) (a b : Int) (w : World) (hA : TIn w va A) (hB : TIn w vb B) :
    Calls Try.prog 28 #[va, .int .i64 a, vb, .int .i64 b] w (DfR (differF A a B b) w) := by
  obtain ⟨ra, rfl, hRA⟩ := hA
  obtain ⟨rb, rfl, hRB⟩ := hB
  rw [show A.val ra = .agg #[.int .i64 A.st, .int .i64 A.ev, .int .i64 A.sr, ra] from rfl, show B.val rb = .agg #[.int .i64 B.st, .int .i64 B.ev, .int .i64 B.sr, rb] from rfl]
  have VA : ∀ W, Fr [] w W → Calls Try.prog 20 #[.agg #[.int .i64 A.st, .int .i64 A.ev, .int .i64 A.sr, ra]] W fun e w' => e = .returned (.bool (validT A)) ∧ Fr [] W w' := fun W f => rvalid_any A _ W ⟨ra, rfl, hRA.fr f⟩
  have VB : ∀ W, Fr [] w W → Calls Try.prog 20 #[.agg #[.int .i64 B.st, .int .i64 B.ev, .int .i64 B.sr, rb]] W fun e w' => e = .returned (.bool (validT B)) ∧ Fr [] W w' := fun W f => rvalid_any B _ W ⟨rb, rfl, hRB.fr f⟩
  obtain ⟨w1, hw1⟩ : ∃ x, w.alloc (.cells #[.int .i64 A.st, .int .i64 A.ev, .int .i64 A.sr, ra] RTab) = x := ⟨_, rfl⟩
  have P1 := Pt.newA w RTab #[.int .i64 A.st, .int .i64 A.ev, .int .i64 A.sr, ra]
  rw [hw1] at P1
  have F1 : Fr [] w w1 := by rw [← hw1]; exact (Fr.refl [] w).alloc _
  obtain ⟨b1, hb1⟩ : ∃ x, w.heap.size = x := ⟨_, rfl⟩
  rw [hb1] at P1
  obtain ⟨w2, hw2⟩ : ∃ x, w1.alloc (.cells #[.int .i64 B.st, .int .i64 B.ev, .int .i64 B.sr, rb] RTab) = x := ⟨_, rfl⟩
  have P2 := Pt.newA w1 RTab #[.int .i64 B.st, .int .i64 B.ev, .int .i64 B.sr, rb]
  rw [hw2] at P2
  have F2 : Fr [] w1 w2 := by rw [← hw2]; exact (Fr.refl [] w1).alloc _
  obtain ⟨b2, hb2⟩ : ∃ x, w1.heap.size = x := ⟨_, rfl⟩
  rw [hb2] at P2
  have Q1 := F2.pt P1 (by simp)
  have FA := F1.trans F2
  have k1 := Q1.cell
  have k2 := P2.cell
  replace P1 := Lib.hid P1; replace P2 := Lib.hid P2; replace Q1 := Lib.hid Q1; replace F1 := Lib.hid F1; replace F2 := Lib.hid F2; replace FA := Lib.hid FA; replace VA := Lib.hid VA; replace VB := Lib.hid VB; replace hRA := Lib.hid hRA; replace hRB := Lib.hid hRB
  obtain ⟨X, hX⟩ : ∃ x, differF A a B b = x := ⟨_, rfl⟩
  rw [hX]
  have hX' := Lib.hid hX
  clear hX
  go_enter Try.func28, Try.ntmps28
  go_wp2_with fail
  refine (VA.out _ FA.out).mono ?_
  rintro e w3 ⟨rfl, f3⟩
  have F3 := FA.out.trans f3
  have Q31 := f3.pt Q1.out (by simp)
  have Q32 := f3.pt P2.out (by simp)
  have k31 := Q31.cell
  have k32 := Q32.cell
  clear k1 k2 hw1 hw2 hb1 hb2
  replace F3 := Lib.hid F3; replace f3 := Lib.hid f3; replace Q31 := Lib.hid Q31; replace Q32 := Lib.hid Q32
  cases hva : validT A
  · have hbad : ValidTwo A B = false := by simp [ValidTwo, hva]
    replace hva := Lib.hid hva
    have hx : X = ([], 1) := by rw [← hX'.out]; unfold differF; rw [hbad]; rfl
    subst hx
    replace hbad := Lib.hid hbad
    have ND : DfR ([], 1) w (.returned (.tuple #[.slice none 0 0, .int .i64 1])) w3 := ⟨_, rfl, ninc_nil _, F3.out⟩
    replace ND := Lib.hid ND
    go_wp2_with fail
    go_ret2
    exact ND.out
  have hVA := (validT_iff A).mp hva
  replace hva := Lib.hid hva
  go_wp2_with fail
  refine (VB.out _ F3.out).mono ?_
  rintro e w4 ⟨rfl, f4⟩
  have F4 := F3.out.trans f4
  have Q41 := f4.pt Q31.out (by simp)
  have Q42 := f4.pt Q32.out (by simp)
  have k41 := Q41.cell
  have k42 := Q42.cell
  clear k31 k32
  replace F4 := Lib.hid F4; replace f4 := Lib.hid f4; replace Q41 := Lib.hid Q41; replace Q42 := Lib.hid Q42; replace hVA := Lib.hid hVA
  cases hvb : validT B
  · have hbad : ValidTwo A B = false := by simp [ValidTwo, hvb]
    replace hvb := Lib.hid hvb
    have hx : X = ([], 1) := by rw [← hX'.out]; unfold differF; rw [hbad]; rfl
    subst hx
    replace hbad := Lib.hid hbad
    have ND : DfR ([], 1) w (.returned (.tuple #[.slice none 0 0, .int .i64 1])) w4 := ⟨_, rfl, ninc_nil _, F4.out⟩
    replace ND := Lib.hid ND
    go_wp2_with fail
    go_ret2
    exact ND.out
  have hVB := (validT_iff B).mp hvb
  replace hvb := Lib.hid hvb; replace hVB := Lib.hid hVB
  cases hee : A.ev == B.ev
  · have hee2 : (A.ev != B.ev) = true := by simp [bne, hee]
    have hbad : ValidTwo A B = false := by simp [ValidTwo]; intro _ _; simpa using hee
    have hx : X = ([], 1) := by rw [← hX'.out]; unfold differF; rw [hbad]; rfl
    subst hx
    replace hbad := Lib.hid hbad
    have ND : DfR ([], 1) w (.returned (.tuple #[.slice none 0 0, .int .i64 1])) w4 := ⟨_, rfl, ninc_nil _, F4.out⟩
    replace ND := Lib.hid ND
    go_wp2_with fail
    go_ret2
    exact ND.out
  have hee2 : (A.ev != B.ev) = false := by simp [bne, hee]
  have hev : A.ev = B.ev := by simpa using hee
  have hgood : ValidTwo A B = true := by simp [ValidTwo, hva.out, hvb.out, hev]
  replace hev := Lib.hid hev
  replace hgood := Lib.hid hgood
  by_cases ha0 : a < 0
  · have hx : X = ([], 1) := by rw [← hX'.out]; unfold differF; rw [hgood.out]; rw [if_neg (by simp [Tb.has]; omega)]
    subst hx
    have ND : DfR ([], 1) w (.returned (.tuple #[.slice none 0 0, .int .i64 1])) w4 := ⟨_, rfl, ninc_nil _, F4.out⟩
    replace ND := Lib.hid ND
    go_wp2_with fail
    go_ret2
    exact ND.out
  by_cases ha1 : A.st ≤ a
  · have hx : X = ([], 1) := by rw [← hX'.out]; unfold differF; rw [hgood.out]; rw [if_neg (by simp [Tb.has]; omega)]
    subst hx
    have ND : DfR ([], 1) w (.returned (.tuple #[.slice none 0 0, .int .i64 1])) w4 := ⟨_, rfl, ninc_nil _, F4.out⟩
    replace ND := Lib.hid ND
    go_wp2_with fail
    go_ret2
    exact ND.out
  by_cases hb0 : b < 0
  · have hx : X = ([], 1) := by rw [← hX'.out]; unfold differF; rw [hgood.out]; rw [if_neg (by simp [Tb.has]; omega)]
    subst hx
    have ND : DfR ([], 1) w (.returned (.tuple #[.slice none 0 0, .int .i64 1])) w4 := ⟨_, rfl, ninc_nil _, F4.out⟩
    replace ND := Lib.hid ND
    go_wp2_with fail
    go_ret2
    exact ND.out
  by_cases hb1 : B.st ≤ b
  · have hx : X = ([], 1) := by rw [← hX'.out]; unfold differF; rw [hgood.out]; rw [if_neg (by simp [Tb.has]; omega)]
    subst hx
    have ND : DfR ([], 1) w (.returned (.tuple #[.slice none 0 0, .int .i64 1])) w4 := ⟨_, rfl, ninc_nil _, F4.out⟩
    replace ND := Lib.hid ND
    go_wp2_with fail
    go_ret2
    exact ND.out
  have hx : X = (match differT A B a b with | some w => (w, 0) | none => ([], 3)) := by rw [← hX'.out]; unfold differF; rw [hgood.out]; rw [if_pos (by simp [Tb.has]; omega)]; cases differT A B a b <;> rfl
  have DF := rdiffer_any A B _ _ a b w4 ⟨ra, rfl, hRA.out.fr F4.out⟩ ⟨rb, rfl, hRB.out.fr F4.out⟩ hVA.out hVB.out hev.out (by omega) (by omega)
  replace DF := Lib.hid DF; replace hx := Lib.hid hx
  go_wp2_with fail
  refine DF.out.mono ?_
  rintro e w7 ⟨v7, rfl, n7, f7⟩
  have F7 := Lib.hid (F4.out.trans f7)
  obtain ⟨D, hD⟩ : ∃ x, differT A B a b = x := ⟨_, rfl⟩
  replace hx := hx.out
  rw [hD] at hx n7
  rw [hD]
  cases D
  · subst hx
    have ND : DfR ([], 3) w (.returned (.tuple #[.slice none 0 0, .int .i64 3])) w7 := ⟨_, rfl, ninc_nil _, F7.out⟩
    replace ND := Lib.hid ND; replace hD := Lib.hid hD; replace f7 := Lib.hid f7; replace n7 := Lib.hid n7
    go_wp2_with fail
    go_ret2
    exact ND.out
  · rename_i wd
    subst hx
    have ND : DfR (wd, 0) w (.returned (.tuple #[v7, .int .i64 0])) w7 := ⟨_, rfl, n7, F7.out⟩
    replace ND := Lib.hid ND; replace hD := Lib.hid hD; replace f7 := Lib.hid f7; replace n7 := Lib.hid n7
    go_wp2_with fail
    go_ret2
    exact ND.out
end Go.Proofs.Ytnggimkkjdipmaa
