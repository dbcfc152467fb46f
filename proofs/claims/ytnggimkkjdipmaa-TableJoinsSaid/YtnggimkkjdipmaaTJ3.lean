import Derived.Test.YtnggimkkjdipmaaTJ2
import Derived.Test.YtnggimkkjdipmaaTB30
namespace Go.Proofs.Ytnggimkkjdipmaa
open Go.RowKit
set_option linter.unusedVariables false
set_option linter.unusedSimpArgs false
set_option maxHeartbeats 16000000
set_option maxRecDepth 100000
theorem rproduct_any (A B : Tb) (va vb sv : Value) (ls : List (Int × Int)) (w : World) (hA : TIn w va A) (hB : TIn w vb B) (hS : PIn w sv ls) (hn : ls.length ≤ 9223372036854775807) :
    Calls Try.prog 24 #[va, vb, sv] w fun e w' => e = .returned (.tuple #[.int .i64 (productF A B ls).1, .int .i64 (productF A B ls).2]) ∧ Fr [] w w' := by
  obtain ⟨ra, rfl, hRA⟩ := hA
  obtain ⟨rb, rfl, hRB⟩ := hB
  rw [show A.val ra = .agg #[.int .i64 A.st, .int .i64 A.ev, .int .i64 A.sr, ra] from rfl, show B.val rb = .agg #[.int .i64 B.st, .int .i64 B.ev, .int .i64 B.sr, rb] from rfl]
  have VA : ∀ W, Fr [] w W → Calls Try.prog 20 #[.agg #[.int .i64 A.st, .int .i64 A.ev, .int .i64 A.sr, ra]] W fun e w' => e = .returned (.bool (validT A)) ∧ Fr [] W w' := fun W f => rvalid_any A _ W ⟨ra, rfl, hRA.fr f⟩
  have VB : ∀ W, Fr [] w W → Calls Try.prog 20 #[.agg #[.int .i64 B.st, .int .i64 B.ev, .int .i64 B.sr, rb]] W fun e w' => e = .returned (.bool (validT B)) ∧ Fr [] W w' := fun W f => rvalid_any B _ W ⟨rb, rfl, hRB.fr f⟩
  obtain ⟨w1, hw1⟩ : ∃ x, w.alloc (.cells #[.int .i64 A.st, .int .i64 A.ev, .int .i64 A.sr, ra] RTab) = x := ⟨_, rfl⟩
  have P1 := Pt.newA w RTab #[.int .i64 A.st, .int .i64 A.ev, .int .i64 A.sr, ra]
  rw [hw1] at P1
  have F1 : Fr [] w w1 := by rw [← hw1]; exact (Fr.refl [] w).alloc _
  obtain ⟨b1, hb1⟩ : ∃ x, w.heap.size = x := ⟨_, rfl⟩
  rw [hb1] at P1
  obtain ⟨w2, hw2⟩ : ∃ x, w1.alloc (.cells #[.int .i64 B.st, .int .i64 B.ev, .int .i64 B.sr, rb] RTab) = x := ⟨_, rfl⟩
  have P2 := Pt.newA w1 RTab #[.int .i64 B.st, .int .i64 B.ev, .int .i64 B.sr, rb]
  rw [hw2] at P2
  have F2 : Fr [] w1 w2 := by rw [← hw2]; exact (Fr.refl [] w1).alloc _
  obtain ⟨b2, hb2⟩ : ∃ x, w1.heap.size = x := ⟨_, rfl⟩
  rw [hb2] at P2
  have Q1 := F2.pt P1 (by simp)
  have FA := F1.trans F2
  have k1 := Q1.cell
  have k2 := P2.cell
  replace P1 := Lib.hid P1; replace P2 := Lib.hid P2; replace Q1 := Lib.hid Q1; replace F1 := Lib.hid F1; replace F2 := Lib.hid F2; replace FA := Lib.hid FA; replace VA := Lib.hid VA; replace VB := Lib.hid VB; replace hRA := Lib.hid hRA; replace hRB := Lib.hid hRB; replace hS := Lib.hid hS
  obtain ⟨X, hX⟩ : ∃ x, productF A B ls = x := ⟨_, rfl⟩
  rw [hX]
  have hX' := Lib.hid hX
  clear hX
  go_enter Try.func24, Try.ntmps24
  go_wp2_with fail
  refine (VA.out _ FA.out).mono ?_
  rintro e w3 ⟨rfl, f3⟩
  have F3 := FA.out.trans f3
  have Q31 := f3.pt Q1.out (by simp)
  have Q32 := f3.pt P2.out (by simp)
  have k31 := Q31.cell
  have k32 := Q32.cell
  clear k1 k2 hw1 hw2
  replace F3 := Lib.hid F3; replace f3 := Lib.hid f3; replace Q31 := Lib.hid Q31; replace Q32 := Lib.hid Q32
  cases hva : validT A
  · have hx : X = (0, 1) := by rw [← hX'.out]; simp [productF, hva]
    subst hx
    replace hva := Lib.hid hva
    go_wp2_with fail
    go_ret2
    exact ⟨rfl, F3.out⟩
  · have hVA := (validT_iff A).mp hva
    replace hva := Lib.hid hva
    go_wp2_with fail
    refine (VB.out _ F3.out).mono ?_
    rintro e w4 ⟨rfl, f4⟩
    have F4 := F3.out.trans f4
    have Q41 := f4.pt Q31.out (by simp)
    have Q42 := f4.pt Q32.out (by simp)
    have k41 := Q41.cell
    have k42 := Q42.cell
    clear k31 k32
    replace F4 := Lib.hid F4; replace f4 := Lib.hid f4; replace Q41 := Lib.hid Q41; replace Q42 := Lib.hid Q42; replace hVA := Lib.hid hVA
    cases hvb : validT B
    · have hx : X = (0, 1) := by rw [← hX'.out]; simp [productF, hvb]
      subst hx
      replace hvb := Lib.hid hvb
      go_wp2_with fail
      go_ret2
      exact ⟨rfl, F4.out⟩
    · have hVB := (validT_iff B).mp hvb
      obtain ⟨oS, capS, rfl, hlS⟩ := hS.out
      replace hvb := Lib.hid hvb; replace hVB := Lib.hid hVB; replace hlS := Lib.hid hlS
      go_wp2_with fail
      clear k41 k42
      go_loopg [8] (ls.length + 1) (fun k v8 wr => ∃ i : Nat, i ≤ ls.length ∧ k + i = ls.length + 1 ∧ v8 = .int .i64 i ∧ ((ls.take i).any fun x => decide (x.2 < 0) || decide (B.ev ≤ x.2)) = false ∧ Fr [] w4 wr)
      case atStart => exact ⟨0, by omega, by omega, rfl, by simp, Fr.refl _ _⟩
      case round =>
        obtain ⟨i, hi, hk, rfl, hni, hF⟩ := hrel
        by_cases hlt : i < ls.length
        · have hltI : (i : Int) < ls.length := by omega
          obtain ⟨b, off, rfl, hb, hc, hc'⟩ := hlS.out i hlt
          have c2 := (F4.out.trans hF).cell (p := ⟨b, off + i * 2 + 1, none⟩) hb (by simp)
          rw [hc'] at c2
          have k5 := (hF.pt Q42.out (by simp)).cell 1
          simp only [List.getElem?_cons_succ, List.getElem?_cons_zero] at k5
          have hnn : (decide (ls[i].2 < 0) || decide (B.ev ≤ ls[i].2)) = false → ((ls.take (i + 1)).any fun x => decide (x.2 < 0) || decide (B.ev ≤ x.2)) = false := fun h => by
            rw [List.take_succ_eq_append_getElem hlt, List.any_append, hni]
            simpa using h
          have hyes : (decide (ls[i].2 < 0) || decide (B.ev ≤ ls[i].2)) = true → X = (0, 1) := fun h => by
            rw [← hX'.out]; unfold productF joinOk
            have : (ls.any fun x => decide (x.2 < 0) || decide (B.ev ≤ x.2)) = true := List.any_eq_true.mpr ⟨_, List.getElem_mem hlt, h⟩
            rw [if_neg (by rw [this]; simp)]
          obtain ⟨y2, hy⟩ : ∃ y, ls[i].2 = y := ⟨_, rfl⟩
          rw [hy] at c2 hnn hyes
          replace hni := Lib.hid hni; replace hnn := Lib.hid hnn; replace hyes := Lib.hid hyes; replace hF := Lib.hid hF; replace hy := Lib.hid hy
          clear hc hc'
          by_cases h1 : y2 < 0
          · obtain rfl := hyes.out (by rw [decide_eq_true h1]; rfl)
            have FF := Lib.hid (F4.out.trans hF.out)
            have dh1 : decide (y2 < 0) = true := decide_eq_true h1
            clear hyes hnn
            go_wp2_with fail
            go_quiet (fail)
            go_wp2_with fail
            go_ret2
            exact ⟨rfl, FF.out.drewN _⟩
          · by_cases h2 : B.ev ≤ y2
            · obtain rfl := hyes.out (by rw [decide_eq_true h2]; simp)
              have FF := Lib.hid (F4.out.trans hF.out)
              have dh1 : decide (y2 < 0) = false := decide_eq_false h1
              clear hyes hnn
              go_wp2_with fail
              go_quiet (fail)
              go_wp2_with fail
              go_ret2
              exact ⟨rfl, FF.out.drewN _⟩
            · have hq := Lib.hid (hnn.out (by rw [decide_eq_false h1, decide_eq_false h2]; rfl))
              have dh1 : decide (y2 < 0) = false := decide_eq_false h1
              have dh2 : y2 < B.ev := by omega
              clear hyes hnn
              go_wp2_with fail
              go_quiet (fail)
              go_wp2_with fail
              go_roundg (gk - 1)
              case measure => omega
              case rel => exact ⟨i + 1, by omega, by omega, by go_num, hq.out, hF.out.drewN _⟩
        · have hltI : ¬ (i : Int) < ls.length := by omega
          rw [List.take_of_length_le (by omega)] at hni
          have hx : X = (prodI (prodT A B ls), 0) := by rw [← hX'.out]; unfold productF joinOk; rw [if_pos (by simp only [hva.out, hvb.out, hni]; rfl)]
          subst hx
          obtain ⟨wb, rfl⟩ : ∃ wb : World, wb = wr := ⟨_, rfl⟩
          have Q51 := hF.pt Q41.out (by simp)
          have Q52 := hF.pt Q42.out (by simp)
          have k51 := Q51.cell
          have k52 := Q52.cell
          have F5 := F4.out.trans hF
          have sa := hVA.out.sr; have sb := hVB.out.sr; have ta := hVA.out.st; have tb := hVB.out.st; have ea := hVA.out.ev
          have bsA := hVA.out.rows
          have bsB := hVB.out.rows
          obtain ⟨oA, capA, rfl, hlA⟩ := hRA.out
          obtain ⟨oB, capB, rfl, hlB⟩ := hRB.out
          have I0 : PrI A B w b1 b2 (.slice oA A.rows.length capA) (.slice oB B.rows.length capB) [(A.sr, B.sr)] (wb.alloc (.cells #[.int .i64 A.sr, .int .i64 B.sr, .slice none 0 0] TPr)) (.slice (some ⟨wb.heap.size, 0, none⟩) 1 1) (some wb.heap.size) := by
            have fz : Fr [] wb (wb.alloc (.cells #[.int .i64 A.sr, .int .i64 B.sr, .slice none 0 0] TPr)) := (Fr.refl [] wb).alloc _
            have PZ := Pt.newA wb TPr #[.int .i64 A.sr, .int .i64 B.sr, .slice none 0 0]
            have q1 := Q51.lt
            have q2 := Q52.lt
            have l1 := P1.out.lt
            refine ⟨fz.pt Q51 (by simp), fz.pt Q52 (by simp), ?_, fun z hz => by cases hz; exact q2, by omega, by omega, F5.trans fz⟩
            refine .inr ⟨wb.heap.size, 0, 1, rfl, rfl, by simp [nilW], PZ.lt, by simp [tcells, nilW], fun j hj => ?_, fun j hj => ?_⟩
            · rw [Nat.zero_add, PZ.cell, PZ.free]
              have : j = 0 ∨ j = 1 ∨ j = 2 := by omega
              rcases this with rfl | rfl | rfl <;> exact ⟨rfl, rfl⟩
            · rw [Nat.zero_add, PZ.cell]; rfl
          replace I0 := Lib.hid I0; replace hlA := Lib.hid hlA; replace hlB := Lib.hid hlB; replace hni := Lib.hid hni; replace hF := Lib.hid hF; replace F5 := Lib.hid F5; replace Q51 := Lib.hid Q51; replace Q52 := Lib.hid Q52
          go_wp2_with fail
          clear k51 k52
          go_loopg [9, 10] 1000 (fun k v9 v10 wr => ∃ (i : Nat) (bo : Option Nat) (L : List (Int × Int)), v10 = .int .i64 i ∧ k + i = 1000 ∧ prodF A B ls k i L = prodT A B ls ∧ i ≤ L.length ∧ PrOk A B L ∧ PrI A B w b1 b2 (.slice oA A.rows.length capA) (.slice oB B.rows.length capB) L wr v9 bo)
          case atStart => exact ⟨0, _, _, rfl, rfl, rfl, by simp, PrOk.start hVA.out hVB.out, I0.out⟩
          case round =>
            obtain ⟨i, bo, L, rfl, hk, hW, hi, hO, hI⟩ := hrel
            obtain ⟨wo, rfl⟩ : ∃ wo : World, wo = wr := ⟨_, rfl⟩
            obtain ⟨gq, rfl⟩ : ∃ g : Nat, g = gk := ⟨_, rfl⟩
            have hLe : L.length ≤ 900 := hO.le ta.2 tb.2
            by_cases hlt : i < L.length
            · have hltI : (i : Int) < L.length := by omega
              obtain ⟨⟨s0, b0⟩, hLi⟩ : ∃ x, L[i] = x := ⟨_, rfl⟩
              have hs0 := hO.rng L[i] (List.getElem_mem hlt)
              rw [hLi] at hs0
              dsimp only at hs0
              obtain ⟨s, rfl⟩ : ∃ s : Nat, s0 = s := ⟨s0.toNat, by omega⟩
              obtain ⟨b, rfl⟩ : ∃ s : Nat, b0 = s := ⟨b0.toNat, by omega⟩
              have hsr : s < A.rows.length := by omega
              have hsrI : (s : Int) < A.rows.length := by omega
              obtain ⟨BB, off, u, rfl, hB, hcB, o2, cap2, rfl, hu⟩ := hlA.out s hsr
              obtain ⟨row, hrow⟩ : ∃ row, A.rows[s] = row := ⟨_, rfl⟩
              have hrl2 := hVA.out.row _ (List.getElem_mem hsr)
              have hcells := hVA.out.cell _ (List.getElem_mem hsr)
              have hev12 := hVA.out.ev
              rw [hrow] at hu hrl2 hcells hcB
              have hrow12 : row.length ≤ 12 := by omega
              obtain ⟨g', rfl⟩ : ∃ g', gq = g' + 1 := ⟨gq - 1, by omega⟩
              have hW2 := hW
              rw [prodF_step A B ls g' i L hlt s b hLi row (by rw [List.getD_eq_getElem?_getD, show ((s : Int)).toNat = s by omega, List.getElem?_eq_getElem hsr, hrow]; rfl)] at hW2
              obtain ⟨bq, oq, cq, rfl, hbq, cq1, cq2⟩ := hI.at hlt
              obtain ⟨R, hR⟩ : ∃ R, prodRow B ls (b : Int) row L = R := ⟨_, rfl⟩
              rw [hR] at hW2
              clear cq1 cq2 hbq
              replace hu := Lib.hid hu; replace hcells := Lib.hid hcells; replace hW2 := Lib.hid hW2; replace hW := Lib.hid hW; replace hO := Lib.hid hO; replace hI := Lib.hid hI; replace hrow := Lib.hid hrow; replace hLi := Lib.hid hLi; replace hcB := Lib.hid hcB; replace hLe := Lib.hid hLe; replace hR := Lib.hid hR
              replace hrl2 := Lib.hid hrl2
              go_wp2_with fail
              go_loopg [9, 11] (row.length + 1) (fun k v9 v11 wr => ∃ (j : Nat) (bo : Option Nat) (L2 : List (Int × Int)), j ≤ row.length ∧ k + j = row.length + 1 ∧ v11 = .int .i64 j ∧ prodRow B ls (b : Int) (row.drop j) L2 = R ∧ i < L2.length ∧ L2[i]? = some ((s : Int), (b : Int)) ∧ PrOk A B L2 ∧ PrI A B w b1 b2 (.slice (some ⟨BB, off, none⟩) A.rows.length capA) (.slice oB B.rows.length capB) L2 wr v9 bo)
              case atStart => exact ⟨0, _, _, by omega, by omega, rfl, hR.out, hlt, by rw [List.getElem?_eq_getElem hlt, hLi.out], hO.out, hI.out⟩
              case round =>
                obtain ⟨j, bo2, L2, hj, hk3, rfl, hWj, hL2, hLi2, hO2, hI2⟩ := hrel
                have kt := hI2.p1.cell
                by_cases hltj : j < row.length
                · have hltJ : (j : Int) < row.length := by omega
                  have hltE : (j : Int) < A.ev := by have := hrl2.out; omega
                  obtain ⟨B2, off2, rfl, hB2, ha, hb⟩ := hu.out j hltj
                  have hce := hcells.out _ (List.getElem_mem hltj)
                  have hsn := prodRow_step B ls (b : Int) row j hltj L2
                  rw [hWj] at hsn
                  obtain ⟨⟨x1, x2⟩, hx⟩ : ∃ x, row[j] = x := ⟨_, rfl⟩
                  rw [hx] at ha hb hce hsn
                  dsimp only at ha hb hce hsn
                  have cB := hI2.fr.cell (p := ⟨BB, off + s, none⟩) hB (by simp)
                  rw [hcB.out] at cB
                  have ca := hI2.fr.cell (p := ⟨B2, off2 + j * 2, none⟩) hB2 (by simp)
                  rw [ha] at ca
                  have cb := hI2.fr.cell (p := ⟨B2, off2 + j * 2 + 1, none⟩) hB2 (by simp)
                  rw [hb] at cb
                  have hLi3 : L2[i] = ((s : Int), (b : Int)) := by have := hLi2; rw [List.getElem?_eq_getElem hL2] at this; exact Option.some.inj this
                  obtain ⟨bq, oq, cq, rfl, hbq, cq1, cq2⟩ := hI2.at hL2
                  rw [hLi3] at cq1 cq2
                  dsimp only at cq1 cq2
                  have hL2I : (i : Int) < L2.length := by omega
                  have hs2 := hI2.fr.size
                  have hBw : BB < wr.heap.size := by omega
                  have hB2w : B2 < wr.heap.size := by omega
                  have hb1w : b1 < wr.heap.size := hI2.p1.lt
                  obtain ⟨w4', hw4⟩ : ∃ x, (wr.alloc (.cells #[.int .i64 x1, .int .i64 x2] RRow)).drew = x := ⟨_, rfl⟩
                  have P4 : Pt w4' wr.heap.size RRow [.int .i64 x1, .int .i64 x2] := by rw [← hw4]; exact (Pt.newA wr RRow #[.int .i64 x1, .int .i64 x2]).drew
                  have F4' : Fr [] wr w4' := by rw [← hw4]; exact ((Fr.refl [] wr).alloc _).drew
                  have hI4 := hI2.frz F4'
                  obtain ⟨bx, hbx⟩ : ∃ x, wr.heap.size = x := ⟨_, rfl⟩
                  rw [hbx] at P4 hBw hB2w hb1w hbq
                  obtain ⟨hc1, hc2, hc3, hc4, hc5⟩ := hce
                  clear ha hb hLi3 hs2
                  replace hx := Lib.hid hx; replace hWj := Lib.hid hWj; replace hc5 := Lib.hid hc5; replace P4 := Lib.hid P4; replace F4' := Lib.hid F4'; replace hI4 := Lib.hid hI4; replace hLi2 := Lib.hid hLi2; replace hO2 := Lib.hid hO2; replace hsn := Lib.hid hsn; replace hI2 := Lib.hid hI2
                  go_wp2_with fail
                  go_region
                  clear hw4 ca cb cB kt cq1 cq2 hbq hb1w hBw hB2w
                  have k4 := P4.out.cell
                  have kt4 := hI4.out.p1.cell
                  by_cases hneg : x1 < 0
                  · as_aux_lemma =>
                    have hsn2 := hsn.out
                    rw [if_pos hneg] at hsn2
                    replace hsn2 := Lib.hid hsn2
                    go_wp2_with fail
                    go_roundg (gk - 1)
                    case measure => omega
                    case rel => exact ⟨j + 1, _, _, by omega, by omega, by go_num, hsn2.out.symm, hL2, hLi2.out, hO2.out, hI4.out⟩
                  · have hsn1 := hsn.out
                    rw [if_neg hneg] at hsn1
                    replace hsn1 := Lib.hid hsn1
                    obtain ⟨bq, oq, cq, hsl, hbq, cq1, cq2⟩ := hI4.out.at hL2
                    obtain ⟨rfl, rfl, rfl⟩ : bq = _ ∧ oq = _ ∧ cq = _ := by
                      have := hsl; simp at this; exact ⟨this.1.1.symm, this.1.2.symm, this.2.symm⟩
                    clear hsl
                    have hLi3 : L2[i] = ((s : Int), (b : Int)) := by have := hLi2.out; rw [List.getElem?_eq_getElem hL2] at this; exact Option.some.inj this
                    rw [hLi3] at cq1 cq2
                    dsimp only at cq1 cq2
                    have hbx4 : bx < w4'.heap.size := P4.out.lt
                    obtain ⟨w5, hw5⟩ : ∃ x, (w4'.alloc (.cells #[.int .i64 x1, .int .i64 (b : Int), .slice none 0 0] TPr)).drew = x := ⟨_, rfl⟩
                    have P5 : Pt w5 w4'.heap.size TPr [.int .i64 x1, .int .i64 (b : Int), .slice none 0 0] := by rw [← hw5]; exact (Pt.newA w4' TPr #[.int .i64 x1, .int .i64 (b : Int), .slice none 0 0]).drew
                    have F45 : Fr [] w4' w5 := by rw [← hw5]; exact ((Fr.refl [] w4').alloc _).drew
                    obtain ⟨bp, hbp⟩ : ∃ x, w4'.heap.size = x := ⟨_, rfl⟩
                    rw [hbp] at P5 hbx4 hbq
                    clear hLi3
                    replace P5 := Lib.hid P5; replace F45 := Lib.hid F45; replace hw5 := Lib.hid hw5
                    go_wp2_with fail
                    go_region
                    rw [hw5.out]
                    clear hw5 cq1 cq2 hbq hbx4 k4 kt4
                    go_upto_block 6 with fail
                    go_cut [14] from 88 to 119 (fun _ wx => ∃ nb : Int, nb = nextB B ls (b : Int) x2 ∧ -1 ≤ nb ∧ nb < B.st ∧ Pt wx bp TPr [.int .i64 x1, .int .i64 nb, .slice none 0 0] ∧ Fr [] w4' wx)
                    case first =>
                      as_aux_lemma =>
                      go_wp2_with fail
                      go_loopg [14] (ls.length + 1) (fun k v14 wr => ∃ m : Nat, m ≤ ls.length ∧ k + m = ls.length + 1 ∧ v14 = .int .i64 m ∧ ((ls.take m).any fun x => x.1 == x2) = false ∧ Fr [] w5 wr)
                      case atStart => exact ⟨0, by omega, by omega, rfl, by simp, Fr.refl _ _⟩
                      case round =>
                        obtain ⟨m, hm, hkm, rfl, hnm, hFm⟩ := hrel
                        obtain ⟨wl, rfl⟩ : ∃ wl : World, wl = wr := ⟨_, rfl⟩
                        have Pm := hFm.pt P5.out (by simp)
                        have F4m := F45.out.trans hFm
                        by_cases hltm : m < ls.length
                        · have hltmI : (m : Int) < ls.length := by omega
                          obtain ⟨bS, fS, rfl, hbS, cs1, cs2⟩ := hlS.out m hltm
                          have Fw := hI4.out.fr.trans F4m
                          have sc1 := Fw.cell (p := ⟨bS, fS + m * 2, none⟩) hbS (by simp)
                          rw [cs1] at sc1
                          have sc2 := Fw.cell (p := ⟨bS, fS + m * 2 + 1, none⟩) hbS (by simp)
                          rw [cs2] at sc2
                          have kx := (F4m.pt P4.out (by simp)).cell 1
                          simp only [List.getElem?_cons_succ, List.getElem?_cons_zero] at kx
                          have hnn : (ls[m].1 == x2) = false → ((ls.take (m + 1)).any fun x => x.1 == x2) = false := fun h => by
                            rw [List.take_succ_eq_append_getElem hltm, List.any_append, hnm]
                            simpa using h
                          have hyes : (ls[m].1 == x2) = true → linkF ls x2 = some ls[m].2 := fun h => linkF_some ls x2 m hltm h hnm
                          have hev : 0 ≤ ls[m].2 ∧ ls[m].2 < B.ev := by
                            have h1 := List.any_eq_false.mp hni.out _ (List.getElem_mem hltm)
                            simp at h1
                            omega
                          obtain ⟨⟨l1, l2⟩, hl⟩ : ∃ x, ls[m] = x := ⟨_, rfl⟩
                          rw [hl] at sc1 sc2 hnn hyes hev
                          dsimp only at sc1 sc2 hnn hyes hev
                          replace hnm := Lib.hid hnm; replace hFm := Lib.hid hFm; replace F4m := Lib.hid F4m; replace Fw := Lib.hid Fw; replace Pm := Lib.hid Pm; replace hl := Lib.hid hl; replace hnn := Lib.hid hnn
                          clear cs1 cs2
                          cases hq : l1 == x2
                          · have hq2 := Lib.hid (hnn.out hq)
                            have hq3 : (l1 != x2) = true := by simp [bne, hq]
                            clear hyes sc2
                            go_wp2_with fail
                            go_quiet (fail)
                            go_wp2_with fail
                            go_roundg (gk - 1)
                            case measure => omega
                            case rel => exact ⟨m + 1, by omega, by omega, by go_num, hq2.out, hFm.out.drewN _⟩
                          · have hlink := hyes hq
                            obtain ⟨en, rfl⟩ : ∃ n : Nat, l2 = n := ⟨l2.toNat, by omega⟩
                            have hbr : b < B.rows.length := by omega
                            have hbrI : (b : Int) < B.rows.length := by omega
                            obtain ⟨B3, off3, u3, rfl, hB3, hcB3, o4, cap4, rfl, hu4⟩ := hlB.out b hbr
                            have hrl4 := hVB.out.row _ (List.getElem_mem hbr)
                            have hen : en < B.rows[b].length := by omega
                            have henI : (en : Int) < B.rows[b].length := by omega
                            obtain ⟨B4, off4, rfl, hB4, ca4, cb4⟩ := hu4 en hen
                            obtain ⟨hs1, he1, hat⟩ := hVB.out.get (s := (b : Int)) (e := (en : Int)) (by omega) (by omega) (by omega) (by omega)
                            have hat2 := hVB.out.atOk (s := (b : Int)) (e := (en : Int)) (by omega) (by omega) (by omega) (by omega)
                            simp only [Int.toNat_natCast] at hat
                            have hnb : nextB B ls (b : Int) x2 = B.rows[b][en].1 := by unfold nextB; rw [hlink]; dsimp only; rw [hat]
                            rw [hat] at hat2
                            obtain ⟨nb, hnbe⟩ : ∃ x, B.rows[b][en].1 = x := ⟨_, rfl⟩
                            rw [hnbe] at hat2 hnb ca4
                            have hnr := And.intro hat2.1 hat2.2.1
                            obtain ⟨rl4, hrl4e⟩ : ∃ x, B.rows[b].length = x := ⟨_, rfl⟩
                            obtain ⟨wd, hwd⟩ : ∃ wd, wd = wl := ⟨_, rfl⟩
                            have hI5 := hI4.out.frz F4m.out
                            have d1 := Fw.out.cell (p := ⟨B3, off3 + b, none⟩) hB3 (by simp)
                            rw [hcB3, hrl4e] at d1
                            have d2 := Fw.out.cell (p := ⟨B4, off4 + en * 2, none⟩) hB4 (by simp)
                            rw [ca4] at d2
                            have d3 := hI5.p2.cell
                            obtain ⟨bq, oq, cq, hsl, hbq, cq1, cq2⟩ := hI5.at hL2
                            obtain ⟨rfl, rfl, rfl⟩ : bq = _ ∧ oq = _ ∧ cq = _ := by
                              have := hsl; simp at this; exact ⟨this.1.1.symm, this.1.2.symm, this.2.symm⟩
                            have hLi3 : L2[i] = ((s : Int), (b : Int)) := by have := hLi2.out; rw [List.getElem?_eq_getElem hL2] at this; exact Option.some.inj this
                            rw [hLi3] at cq1 cq2
                            dsimp only at cq1 cq2
                            rw [hrl4e] at hen henI
                            have km := Pm.out.cell
                            have zm := Pm.out.free
                            have FZ : Fr [] w4' ((wl.setCell ⟨bp, 1, none⟩ (.int .i64 nb))) := F4m.out.setCell (.inr (by rw [hbp]; exact Nat.le_refl _)) _
                            have PZ := (Pm.out.set' (j := 1) (v := .int .i64 nb) (cs' := [.int .i64 x1, .int .i64 nb, .slice none 0 0]) rfl)
                            clear hsl hLi3 hwd hyes hlink hat hat2 hnbe hrl4 hrl4e hs1 he1 ca4 cb4 hcB3 hu4
                            replace hnb := Lib.hid hnb; replace hI5 := Lib.hid hI5; replace FZ := Lib.hid FZ; replace PZ := Lib.hid PZ
                            go_wp2_with fail
                            go_quiet (fail)
                            go_wp2_with fail
                            go_region
                            go_wp2_with fail
                            go_meet
                            case rel => exact ⟨nb, hnb.out.symm, hnr.1, hnr.2, PZ.out, (F4m.out.drewN _).setCell (.inr (by rw [hbp]; exact Nat.le_refl _)) _⟩
                        · have hltmI : ¬ (m : Int) < ls.length := by omega
                          rw [List.take_of_length_le (by omega)] at hnm
                          have hnb : nextB B ls (b : Int) x2 = (b : Int) := by unfold nextB; rw [linkF_none ls x2 hnm]
                          replace hnm := Lib.hid hnm; replace hFm := Lib.hid hFm; replace F4m := Lib.hid F4m; replace Pm := Lib.hid Pm; replace hnb := Lib.hid hnb
                          go_wp2_with fail
                          go_meet
                          case rel => exact ⟨(b : Int), hnb.out.symm, by omega, by omega, Pm.out, F4m.out⟩
                    case rest =>
                      obtain ⟨nb, hnb, hn1, hn2, Pn, Fn⟩ := hcut
                      have hsn2 := hsn1.out
                      rw [← hnb] at hsn2
                      have hIn := hI4.out.frz Fn
                      have kn := Pn.cell
                      replace hnb := Lib.hid hnb; replace Pn := Lib.hid Pn; replace Fn := Lib.hid Fn; replace hIn := Lib.hid hIn
                      by_cases hnn : nb < 0
                      · as_aux_lemma =>
                        have hT : prodT A B ls = none := by
                          rw [if_pos hnn] at hsn2
                          have h2 := hW2.out
                          rw [hsn2] at h2
                          exact h2.symm
                        have hT' : (-1 : Int) = prodI (prodT A B ls) := by rw [hT]; rfl
                        replace hT := Lib.hid hT; replace hT' := Lib.hid hT'; replace hsn2 := Lib.hid hsn2
                        go_wp2_with fail
                        go_ret2
                        exact ⟨by show Ending.returned (.tuple #[.int .i64 (-1), .int .i64 0]) = _; rw [hT'.out], hIn.out.fr⟩
                      · rw [if_neg hnn] at hsn2
                        replace hsn2 := Lib.hid hsn2
                        obtain ⟨wz, rfl⟩ : ∃ x : World, x = wc := ⟨_, rfl⟩
                        have hle2 := hO2.out.le ta.2 tb.2
                        go_upto_block 8 with fail
                        go_cut [15, 16] from 123 to 150 (fun v15 _ wx => v15 = .bool (decide ((x1, nb) ∈ L2)) ∧ Fr [] wz wx)
                        case first =>
                          as_aux_lemma =>
                          go_wp2_with fail
                          skip
                          go_loopg [15, 16] (L2.length + 1) (fun k v15 v16 wr => ∃ (m : Nat) (kn : Bool), m ≤ L2.length ∧ k + m = L2.length + 1 ∧ v16 = .int .i64 m ∧ v15 = .bool kn ∧ decide ((x1, nb) ∈ L2.take m) = kn ∧ Fr [] wz wr)
                          case atStart => exact ⟨0, false, by omega, by omega, rfl, rfl, by simp, Fr.refl _ _⟩
                          case round =>
                            obtain ⟨m, kn, hm, hkm, rfl, rfl, hkn, hFm⟩ := hrel
                            obtain ⟨wl, rfl⟩ : ∃ wl : World, wl = wr := ⟨_, rfl⟩
                            have Pm := Pn.out
                            have hIm := hIn.out.frz hFm
                            have kp := (hFm.pt Pn.out (by simp)).cell
                            replace hFm := Lib.hid hFm
                            replace hkn := Lib.hid hkn
                            cases kn
                            · by_cases hltm : m < L2.length
                              · have hltmI : (m : Int) < L2.length := by omega
                                obtain ⟨bq, oq, cq, hsl, hbq, cq1, cq2⟩ := hIm.at hltm
                                obtain ⟨rfl, rfl, rfl⟩ : bq = _ ∧ oq = _ ∧ cq = _ := by
                                  have := hsl; simp at this; exact ⟨this.1.1.symm, this.1.2.symm, this.2.symm⟩
                                have hnx : (decide ((x1, nb) ∈ L2.take (m + 1))) = (L2[m].1 == x1 && L2[m].2 == nb) := by
                                  rw [List.take_succ_eq_append_getElem hltm, Bool.eq_iff_iff]
                                  have h0 := of_decide_eq_false hkn.out
                                  simp only [decide_eq_true_eq, List.mem_append, h0, false_or, List.mem_singleton, Bool.and_eq_true, beq_iff_eq]
                                  constructor
                                  · intro h; rw [← h]; exact ⟨rfl, rfl⟩
                                  · rintro ⟨h1, h2⟩; rw [← h1, ← h2]
                                obtain ⟨⟨l1, l2⟩, hl⟩ : ∃ x, L2[m] = x := ⟨_, rfl⟩
                                rw [hl] at cq1 cq2 hnx
                                dsimp only at cq1 cq2 hnx
                                replace hl := Lib.hid hl; replace hIm := Lib.hid hIm
                                clear hsl
                                cases hq : l1 == x1
                                · rw [hq, Bool.false_and] at hnx
                                  have hq3 : (l1 != x1) = true := by simp [bne, hq]
                                  replace hnx := Lib.hid hnx
                                  go_wp2_with fail
                                  go_quiet (fail)
                                  go_wp2_with fail
                                  go_roundg (gk - 1)
                                  case measure => omega
                                  case rel => exact ⟨m + 1, false, by omega, by omega, by go_num, rfl, hnx.out, hFm.out.drewN _⟩
                                · rw [hq, Bool.true_and] at hnx
                                  replace hnx := Lib.hid hnx
                                  cases hq2 : l2 == nb
                                  all_goals
                                    go_wp2_with fail
                                    go_quiet (fail)
                                    go_wp2_with fail
                                    go_roundg (gk - 1)
                                    case measure => omega
                                    case rel => exact ⟨m + 1, _, by omega, by omega, by go_num, rfl, by rw [hnx.out, hq2], hFm.out.drewN _⟩
                              · have hltmI : ¬ (m : Int) < L2.length := by omega
                                have hk2 := hkn.out
                                rw [List.take_of_length_le (by omega)] at hk2
                                replace hk2 := Lib.hid hk2; replace hIm := Lib.hid hIm
                                go_wp2_with fail
                                go_meet
                                case rel => exact ⟨by rw [hk2.out], hFm.out⟩
                            · have hmem : (x1, nb) ∈ L2 := List.mem_of_mem_take (of_decide_eq_true hkn.out)
                              replace hmem := Lib.hid hmem; replace hIm := Lib.hid hIm
                              by_cases hltm : m < L2.length
                              · have hltmI : (m : Int) < L2.length := by omega
                                go_wp2_with fail
                                go_meet
                                case rel => exact ⟨by rw [decide_eq_true hmem.out], hFm.out⟩
                              · have hltmI : ¬ (m : Int) < L2.length := by omega
                                go_wp2_with fail
                                go_meet
                                case rel => exact ⟨by rw [decide_eq_true hmem.out], hFm.out⟩
                        case rest =>
                          obtain ⟨rfl, Fk⟩ := hcut
                          have hIk := hIn.out.frz Fk
                          have hxr : 0 ≤ ((x1, nb) : Int × Int).1 ∧ ((x1, nb) : Int × Int).1 < A.st ∧ 0 ≤ ((x1, nb) : Int × Int).2 ∧ ((x1, nb) : Int × Int).2 < B.st := by dsimp only; omega
                          have hsn3 := hsn2.out
                          by_cases hin : (x1, nb) ∈ L2
                          · as_aux_lemma =>
                            rw [decide_eq_true hin]
                            rw [if_pos hin] at hsn3
                            replace hsn3 := Lib.hid hsn3; replace hin := Lib.hid hin; replace hxr := Lib.hid hxr; replace Fk := Lib.hid Fk; replace hIk := Lib.hid hIk
                            go_wp2_with fail
                            go_roundg (gk - 1)
                            case measure => omega
                            case rel => exact ⟨j + 1, _, _, by omega, by omega, by go_num, hsn3.out.symm, hL2, hLi2.out, hO2.out, hIk.out⟩
                          · as_aux_lemma =>
                            rw [decide_eq_false hin]
                            rw [if_neg hin] at hsn3
                            have hO3 := hO2.out.step (x1, nb) hxr hin
                            have k8 := (Fk.pt Pn.out (by simp)).cell
                            obtain ⟨v', w9, bo', happ, hI9⟩ := hIn.out.add (by have := hO2.out.le ta.2 tb.2; omega) (x1, nb) Fk
                            dsimp only at happ
                            have hL3 : (L2 ++ [(x1, nb)])[i]? = some ((s : Int), (b : Int)) := by rw [List.getElem?_append_left hL2]; exact hLi2.out
                            replace hsn3 := Lib.hid hsn3; replace hin := Lib.hid hin; replace hxr := Lib.hid hxr; replace hI9 := Lib.hid hI9; replace hO3 := Lib.hid hO3; replace hL3 := Lib.hid hL3; replace happ := Lib.hid happ; replace Fk := Lib.hid Fk; replace hIk := Lib.hid hIk
                            go_wp2_with (first | (at_builtin; refine wpList_append_run _ rfl _ _ _ rfl rfl rfl happ.out ?_))
                            go_roundg (gk - 1)
                            case measure => omega
                            case rel => exact ⟨j + 1, _, _, by omega, by omega, by go_num, hsn3.out.symm, by simp; omega, hL3.out, hO3.out, hI9.out⟩
                · as_aux_lemma =>
                  have hltJ : ¬ (j : Int) < A.ev := by have := hrl2.out; omega
                  rw [List.drop_eq_nil_of_le (by omega)] at hWj
                  have hR2 : some L2 = R := hWj
                  have hW3 := hW2.out
                  rw [← hR2] at hW3
                  have hW4 : prodF A B ls g' (i + 1) L2 = prodT A B ls := hW3
                  have hle2 := hO2.le ta.2 tb.2
                  clear hWj hR2 hW3
                  replace hW4 := Lib.hid hW4; replace hO2 := Lib.hid hO2; replace hI2 := Lib.hid hI2; replace hLi2 := Lib.hid hLi2
                  go_wp2_with fail
                  go_roundg g'
                  case measure => omega
                  case rel => exact ⟨i + 1, _, _, by go_num, by omega, hW4.out, by omega, hO2.out, hI2.out⟩
            · as_aux_lemma =>
              have hie : i = L.length := by omega
              have hT : prodT A B ls = some L := by rw [← hW, prodF_more _ _ _ _ _ _ (by omega)]
              obtain ⟨oo, n, co, rfl, hn0⟩ : ∃ oo n co, u9 = .slice oo n co ∧ n = L.length := by
                obtain ⟨oo, co, e⟩ := hI.q.len
                exact ⟨oo, _, co, e, by simp [nilW]⟩
              have hltI : ¬ (i : Int) < n := by omega
              have hpi : (n : Int) = prodI (prodT A B ls) := by rw [hT, hn0]; rfl
              replace hI := Lib.hid hI; replace hO := Lib.hid hO; replace hT := Lib.hid hT; replace hW := Lib.hid hW; replace hie := Lib.hid hie; replace hn0 := Lib.hid hn0; replace hpi := Lib.hid hpi
              go_wp2_with fail
              go_ret2
              exact ⟨by show Ending.returned (.tuple #[.int .i64 (n : Int), .int .i64 0]) = _; rw [hpi.out], hI.out.fr⟩
end Go.Proofs.Ytnggimkkjdipmaa
