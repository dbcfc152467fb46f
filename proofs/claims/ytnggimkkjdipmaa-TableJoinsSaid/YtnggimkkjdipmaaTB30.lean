import Derived.Test.YtnggimkkjdipmaaTJ1
namespace Go.Proofs.Ytnggimkkjdipmaa
open Go.RowKit
set_option linter.unusedVariables false
set_option linter.unusedSimpArgs false
set_option maxHeartbeats 16000000
set_option maxRecDepth 100000
theorem linkF_some (ls : List (Int × Int)) (out : Int) : ∀ (k : Nat) (h : k < ls.length), (ls[k].1 == out) = true → ((ls.take k).any fun x => x.1 == out) = false → linkF ls out = some ls[k].2 := by
  unfold linkF
  induction ls with
  | nil => intro k h; simp at h
  | cons x ls ih =>
    intro k h h1 h2
    cases k with
    | zero => simp at h1; simp [h1]
    | succ k =>
      simp at h2
      have hx : (x.1 == out) = false := by simpa using h2.1
      rw [List.find?_cons, hx]
      exact ih k (by simpa using h) (by simpa using h1) (by simpa using h2.2)
theorem linkF_none (ls : List (Int × Int)) (out : Int) (h : (ls.any fun x => x.1 == out) = false) : linkF ls out = none := by
  unfold linkF
  rw [List.find?_eq_none.mpr]
  · rfl
  · intro x hx h1
    exact absurd (List.any_eq_true.mpr ⟨x, hx, h1⟩) (by rw [h]; simp)
theorem prodRow_step (B : Tb) (ls : List (Int × Int)) (b : Int) (row : List (Int × Int)) (j : Nat) (h : j < row.length) (L : List (Int × Int)) :
    prodRow B ls b (row.drop j) L = if row[j].1 < 0 then prodRow B ls b (row.drop (j + 1)) L else if nextB B ls b row[j].2 < 0 then none else prodRow B ls b (row.drop (j + 1)) (if (row[j].1, nextB B ls b row[j].2) ∈ L then L else L ++ [(row[j].1, nextB B ls b row[j].2)]) := by
  rw [List.drop_eq_getElem_cons h]
  rfl
theorem prodF_step (A B : Tb) (ls : List (Int × Int)) (g i : Nat) (L : List (Int × Int)) (h : i < L.length) (s b : Int) (hs : L[i] = (s, b)) (row : List (Int × Int)) (hr : A.rows.getD s.toNat [] = row) :
    prodF A B ls (g + 1) i L = (prodRow B ls b row L).bind (prodF A B ls g (i + 1)) := by
  conv => lhs; unfold prodF
  rw [if_pos h]
  have e1 : L.getD i (0, 0) = (s, b) := by rw [List.getD_eq_getElem?_getD, List.getElem?_eq_getElem h, hs]; rfl
  rw [e1, hr]
theorem product_any (A B : Tb) (va vb sv : Value) (ls : List (Int × Int)) (w : World) (hA : TIn w va A) (hB : TIn w vb B) (hS : PIn w sv ls) (hn : ls.length ≤ 9223372036854775807) :
    Calls Try.prog 23 #[va, vb, sv] w fun e w' => e = .returned (.tuple #[.int .i64 (productF A B ls).1, .int .i64 (productF A B ls).2]) ∧ Fr [] w w' := by
  obtain ⟨ra, rfl, hRA⟩ := hA
  obtain ⟨rb, rfl, hRB⟩ := hB
  rw [show A.val ra = .agg #[.int .i64 A.st, .int .i64 A.ev, .int .i64 A.sr, ra] from rfl, show B.val rb = .agg #[.int .i64 B.st, .int .i64 B.ev, .int .i64 B.sr, rb] from rfl]
  have VA : ∀ W, Fr [] w W → Calls Try.prog 19 #[.agg #[.int .i64 A.st, .int .i64 A.ev, .int .i64 A.sr, ra]] W fun e w' => e = .returned (.bool (validT A)) ∧ Fr [] W w' := fun W f => valid_any A _ W ⟨ra, rfl, hRA.fr f⟩
  have VB : ∀ W, Fr [] w W → Calls Try.prog 19 #[.agg #[.int .i64 B.st, .int .i64 B.ev, .int .i64 B.sr, rb]] W fun e w' => e = .returned (.bool (validT B)) ∧ Fr [] W w' := fun W f => valid_any B _ W ⟨rb, rfl, hRB.fr f⟩
  obtain ⟨w1, hw1⟩ : ∃ x, w.alloc (.cells #[.int .i64 A.st, .int .i64 A.ev, .int .i64 A.sr, ra] TTab) = x := ⟨_, rfl⟩
  have P1 := Pt.newA w TTab #[.int .i64 A.st, .int .i64 A.ev, .int .i64 A.sr, ra]
  rw [hw1] at P1
  have F1 : Fr [] w w1 := by rw [← hw1]; exact (Fr.refl [] w).alloc _
  obtain ⟨b1, hb1⟩ : ∃ x, w.heap.size = x := ⟨_, rfl⟩
  rw [hb1] at P1
  obtain ⟨w2, hw2⟩ : ∃ x, w1.alloc (.cells #[.int .i64 B.st, .int .i64 B.ev, .int .i64 B.sr, rb] TTab) = x := ⟨_, rfl⟩
  have P2 := Pt.newA w1 TTab #[.int .i64 B.st, .int .i64 B.ev, .int .i64 B.sr, rb]
  rw [hw2] at P2
  have F2 : Fr [] w1 w2 := by rw [← hw2]; exact (Fr.refl [] w1).alloc _
  obtain ⟨b2, hb2⟩ : ∃ x, w1.heap.size = x := ⟨_, rfl⟩
  rw [hb2] at P2
  have Q1 := F2.pt P1 (by simp)
  have FA := F1.trans F2
  have k1 := Q1.cell
  have k2 := P2.cell
  have FS : ∀ W, Fr [] w W → Pt W b2 TTab [.int .i64 B.st, .int .i64 B.ev, .int .i64 B.sr, rb] → Calls Try.prog 57 #[sv, .func (.func 58) #[] #[.pointer (some ⟨b2, 0, none⟩)]] W fun e w' => e = .returned (.bool (ls.any fun x => decide (x.2 < 0) || decide (B.ev ≤ x.2))) ∧ Fr [] W w' := fun W f hp =>
    containsP_any sv ls W (hS.fr f) hn _ _ _ cf_prod1 (fun W' x f' _ => prod1_any B rb b2 x W' (f'.pt hp (by simp)))
  replace P1 := Lib.hid P1; replace P2 := Lib.hid P2; replace Q1 := Lib.hid Q1; replace F1 := Lib.hid F1; replace F2 := Lib.hid F2; replace FA := Lib.hid FA; replace VA := Lib.hid VA; replace VB := Lib.hid VB; replace FS := Lib.hid FS; replace hRA := Lib.hid hRA; replace hRB := Lib.hid hRB; replace hS := Lib.hid hS
  obtain ⟨X, hX⟩ : ∃ x, productF A B ls = x := ⟨_, rfl⟩
  rw [hX]
  have hX' := Lib.hid hX
  clear hX
  go_enter Try.func23, Try.ntmps23
  go_wp2_with fail
  refine (VA.out _ FA.out).mono ?_
  rintro e w3 ⟨rfl, f3⟩
  have F3 := FA.out.trans f3
  have Q31 := f3.pt Q1.out (by simp)
  have Q32 := f3.pt P2.out (by simp)
  have k31 := Q31.cell
  have k32 := Q32.cell
  clear k1 k2 hw1 hw2
  replace F3 := Lib.hid F3; replace f3 := Lib.hid f3; replace Q31 := Lib.hid Q31; replace Q32 := Lib.hid Q32
  cases hva : validT A
  · have hx : X = (0, 1) := by rw [← hX'.out]; simp [productF, hva]
    subst hx
    replace hva := Lib.hid hva
    go_wp2_with fail
    go_ret2
    exact ⟨rfl, F3.out⟩
  · have hVA := (validT_iff A).mp hva
    replace hva := Lib.hid hva
    go_wp2_with fail
    refine (VB.out _ F3.out).mono ?_
    rintro e w4 ⟨rfl, f4⟩
    have F4 := F3.out.trans f4
    have Q41 := f4.pt Q31.out (by simp)
    have Q42 := f4.pt Q32.out (by simp)
    have k41 := Q41.cell
    have k42 := Q42.cell
    clear k31 k32
    replace F4 := Lib.hid F4; replace f4 := Lib.hid f4; replace Q41 := Lib.hid Q41; replace Q42 := Lib.hid Q42; replace hVA := Lib.hid hVA
    cases hvb : validT B
    · have hx : X = (0, 1) := by rw [← hX'.out]; simp [productF, hvb]
      subst hx
      replace hvb := Lib.hid hvb
      go_wp2_with fail
      go_ret2
      exact ⟨rfl, F4.out⟩
    · have hVB := (validT_iff B).mp hvb
      replace hvb := Lib.hid hvb; replace hVB := Lib.hid hVB
      go_wp2_with fail
      refine (FS.out _ F4.out Q42.out).mono ?_
      rintro e w5 ⟨rfl, f5⟩
      have F5 := F4.out.trans f5
      have Q51 := f5.pt Q41.out (by simp)
      have Q52 := f5.pt Q42.out (by simp)
      have k51 := Q51.cell
      have k52 := Q52.cell
      clear k41 k42
      replace F5 := Lib.hid F5; replace f5 := Lib.hid f5; replace Q51 := Lib.hid Q51; replace Q52 := Lib.hid Q52
      cases hws : ls.any fun x => decide (x.2 < 0) || decide (B.ev ≤ x.2)
      · have hx : X = (prodI (prodT A B ls), 0) := by rw [← hX'.out]; unfold productF joinOk; rw [if_pos (by simp only [hva.out, hvb.out, hws]; rfl)]
        subst hx
        replace hws := Lib.hid hws
        have sa := hVA.out.sr; have sb := hVB.out.sr; have ta := hVA.out.st; have tb := hVB.out.st
        obtain ⟨w6, hw6⟩ : ∃ x, w5.alloc (.cells #[.int .i64 A.sr, .int .i64 B.sr] 93) = x := ⟨_, rfl⟩
        have P6 := Pt.newA w5 93 #[.int .i64 A.sr, .int .i64 B.sr]
        rw [hw6] at P6
        have F56 : Fr [] w5 w6 := by rw [← hw6]; exact (Fr.refl [] w5).alloc _
        obtain ⟨b6, hb6⟩ : ∃ x, w5.heap.size = x := ⟨_, rfl⟩
        rw [hb6] at P6
        have hmm := run_makeMap (P := Try.prog) 95 w6
        obtain ⟨w7, hw7⟩ : ∃ x, w6.alloc (.map #[] 0) = x := ⟨_, rfl⟩
        have M7 := MapK.made pairK w6
        rw [hw7] at hmm M7
        have F67 : Fr [] w6 w7 := by rw [← hw7]; exact (Fr.refl [] w6).alloc _
        obtain ⟨bm, hbm⟩ : ∃ x, w6.heap.size = x := ⟨_, rfl⟩
        rw [hbm] at hmm M7
        have l6 := P6.lt
        obtain ⟨w8, UP, M8, F78⟩ := M7.newW (P := Try.prog) (t := 95) (et := 4) lawArr (by kernel_rfl) pairK_inj (by simp) (by simp) (A.sr, B.sr) (keyArr _ (by dsimp only; omega) (by dsimp only; omega)) rfl (.bool true)
        simp only [pairK] at UP
        have Q61 := F56.pt Q51.out (by simp)
        have P76 := F67.pt P6 (by simp)
        have c76 := P76.cell
        have c86 := (F78.pt P76 (by simp; omega)).cell
        have c66 := P6.cell
        replace P6 := Lib.hid P6; replace F56 := Lib.hid F56; replace M7 := Lib.hid M7; replace F67 := Lib.hid F67; replace M8 := Lib.hid M8; replace F78 := Lib.hid F78; replace Q61 := Lib.hid Q61; replace P76 := Lib.hid P76
        go_wp2_with fail
        obtain ⟨oA, capA, rfl, hlA⟩ := hRA.out
        obtain ⟨oB, capB, rfl, hlB⟩ := hRB.out
        obtain ⟨oS, capS, rfl, hlS⟩ := hS.out
        have F8 := ((F5.out.trans F56.out).trans F67.out).step F78.out (fun z hz => .inr (by simp at hz; have := F5.out.size; have := F56.out.size; omega))
        have I0 : PjI A B w b1 b2 bm (.slice oA A.rows.length capA) (.slice oB B.rows.length capB) 0 [(A.sr, B.sr)] (w8.alloc (.cells #[.int .i64 A.sr, .int .i64 B.sr] 93)) (.slice (some ⟨w8.heap.size, 0, none⟩) 1 1) (some w8.heap.size) := by
          have q1 := Q51.out.lt
          have q2 := Q52.out.lt
          have s1 := F1.out.size
          have s56 := F56.out.size
          have l1 := P1.out.lt
          have M8' := M8.out
          have ml := M8'.lt
          have fz : Fr [] w8 (w8.alloc (.cells #[.int .i64 A.sr, .int .i64 B.sr] 93)) := (Fr.refl [] w8).alloc _
          have PZ := Pt.newA w8 93 #[.int .i64 A.sr, .int .i64 B.sr]
          refine ⟨fz.pt (F78.out.pt (F67.out.pt (F56.out.pt Q51.out (by simp)) (by simp)) (by simp; omega)) (by simp), fz.pt (F78.out.pt (F67.out.pt (F56.out.pt Q52.out (by simp)) (by simp)) (by simp; omega)) (by simp), ?_, M8'.fr fz (by simp), fun z hz => by cases hz; exact ml, by omega, by omega, by omega, F8.trans fz⟩
          refine .inr ⟨w8.heap.size, 0, 1, rfl, rfl, by simp, PZ.lt, by simp [pcells], fun j hj => ?_, fun j hj => ?_⟩
          · rw [Nat.zero_add, PZ.cell, PZ.free]
            have : j = 0 ∨ j = 1 := by omega
            rcases this with rfl | rfl <;> exact ⟨rfl, rfl⟩
          · rw [Nat.zero_add, PZ.cell]; rfl
        replace I0 := Lib.hid I0; replace hlA := Lib.hid hlA; replace hlB := Lib.hid hlB; replace hlS := Lib.hid hlS
        have bsA := hVA.out.rows
        have bsB := hVB.out.rows
        clear k51 k52 c76 c86 c66 UP hmm
        clear hw6 hw7 hb6 hbm
        go_loopg [10] 1000 (fun k v10 wr => ∃ (i : Nat) (bo : Option Nat) (L : List (Int × Int)), k + i = 1000 ∧ prodF A B ls k i L = prodT A B ls ∧ i ≤ L.length ∧ PrOk A B L ∧ PjI A B w b1 b2 bm (.slice oA A.rows.length capA) (.slice oB B.rows.length capB) i L wr v10 bo)
        case atStart => exact ⟨0, _, _, rfl, rfl, by simp, PrOk.start hVA.out hVB.out, I0.out⟩
        case round =>
          obtain ⟨i, bo, L, hk, hW, hi, hO, hI⟩ := hrel
          obtain ⟨wo, rfl⟩ : ∃ wo : World, wo = wr := ⟨_, rfl⟩
          obtain ⟨gq, rfl⟩ : ∃ g : Nat, g = gk := ⟨_, rfl⟩
          have hLe : L.length ≤ 900 := hO.le ta.2 tb.2
          by_cases hlt : i < L.length
          · obtain ⟨⟨s0, b0⟩, hLi⟩ : ∃ x, L[i] = x := ⟨_, rfl⟩
            have hs0 := hO.rng L[i] (List.getElem_mem hlt)
            rw [hLi] at hs0
            dsimp only at hs0
            obtain ⟨s, rfl⟩ : ∃ s : Nat, s0 = s := ⟨s0.toNat, by omega⟩
            obtain ⟨b, rfl⟩ : ∃ s : Nat, b0 = s := ⟨b0.toNat, by omega⟩
            have hsr : s < A.rows.length := by omega
            have hsrI : (s : Int) < A.rows.length := by omega
            obtain ⟨BB, off, u, rfl, hB, hcB, o2, cap2, rfl, hu⟩ := hlA.out s hsr
            have cB := hI.fr.cell (p := ⟨BB, off + s, none⟩) hB (by simp)
            rw [hcB] at cB
            obtain ⟨row, hrow⟩ : ∃ row, A.rows[s] = row := ⟨_, rfl⟩
            have hrl2 := hVA.out.row _ (List.getElem_mem hsr)
            have hcells := hVA.out.cell _ (List.getElem_mem hsr)
            have hev12 := hVA.out.ev
            rw [hrow] at hu hrl2 hcells cB
            have hrow12 : row.length ≤ 12 := by omega
            obtain ⟨g', rfl⟩ : ∃ g', gq = g' + 1 := ⟨gq - 1, by omega⟩
            have hW2 := hW
            rw [prodF_step A B ls g' i L hlt s b hLi row (by rw [List.getD_eq_getElem?_getD, show ((s : Int)).toNat = s by omega, List.getElem?_eq_getElem hsr, hrow]; rfl)] at hW2
            obtain ⟨bq, oq, nq, cq, rfl, hnq, hbq, cq1, cq2, hnq2, _⟩ := hI.head hlt
            rw [hLi] at cq1 cq2
            dsimp only at cq1 cq2
            have kt := hI.p1.cell
            replace hu := Lib.hid hu; replace hrl2 := Lib.hid hrl2; replace hcells := Lib.hid hcells; replace hW2 := Lib.hid hW2; replace hW := Lib.hid hW; replace hO := Lib.hid hO; replace hI := Lib.hid hI; replace hrow := Lib.hid hrow; replace hLi := Lib.hid hLi; replace hcB := Lib.hid hcB; replace hLe := Lib.hid hLe; replace hnq2 := Lib.hid hnq2
            go_wp2_with fail
            go_quiet (fail)
            go_wp2_with fail
            obtain ⟨R, hR⟩ : ∃ R, prodRow B ls (b : Int) row L = R := ⟨_, rfl⟩
            rw [hR] at hW2
            replace hR := Lib.hid hR
            clear kt cB cq1 cq2
            go_loopg [10, 52] (row.length + 1) (fun k v10 v52 wr => ∃ (j : Nat) (bo : Option Nat) (L2 : List (Int × Int)), j ≤ row.length ∧ k + j = row.length + 1 ∧ v52 = .int .i64 j ∧ prodRow B ls (b : Int) (row.drop j) L2 = R ∧ i < L2.length ∧ L2[i]? = some ((s : Int), (b : Int)) ∧ PrOk A B L2 ∧ PjI A B w b1 b2 bm (.slice (some ⟨BB, off, none⟩) A.rows.length capA) (.slice oB B.rows.length capB) i L2 wr v10 bo)
            case atStart => exact ⟨0, _, _, by omega, by omega, rfl, hR.out, hlt, by rw [List.getElem?_eq_getElem hlt, hLi.out], hO.out, hI.out.frz ((Fr.refl _ _).drewN _)⟩
            case round =>
              obtain ⟨j, bo2, L2, hj, hk3, rfl, hWj, hL2, hLi2, hO2, hI2⟩ := hrel
              by_cases hltj : j < row.length
              · have hltJ : (j : Int) < row.length := by omega
                obtain ⟨B2, off2, rfl, hB2, ha, hb⟩ := hu.out j hltj
                have hce := hcells.out _ (List.getElem_mem hltj)
                have hsn := prodRow_step B ls (b : Int) row j hltj L2
                rw [hWj] at hsn
                obtain ⟨⟨x1, x2⟩, hx⟩ : ∃ x, row[j] = x := ⟨_, rfl⟩
                rw [hx] at ha hb hce hsn
                dsimp only at ha hb hce hsn
                have ca := hI2.fr.cell (p := ⟨B2, off2 + j * 2, none⟩) hB2 (by simp)
                rw [ha] at ca
                have cb := hI2.fr.cell (p := ⟨B2, off2 + j * 2 + 1, none⟩) hB2 (by simp)
                rw [hb] at cb
                obtain ⟨w4, hw4⟩ : ∃ x, wr.alloc (.cells #[.int .i64 x1, .int .i64 x2] TRow) = x := ⟨_, rfl⟩
                have P4 := Pt.newA wr TRow #[.int .i64 x1, .int .i64 x2]
                rw [hw4] at P4
                have F4 : Fr [] wr w4 := by rw [← hw4]; exact (Fr.refl [] wr).alloc _
                have hI4 := hI2.frz F4
                obtain ⟨bx, hbx⟩ : ∃ x, wr.heap.size = x := ⟨_, rfl⟩
                rw [hbx] at P4
                have k4 := P4.cell
                obtain ⟨hc1, hc2, hc3, hc4, hc5⟩ := hce
                have hLi3 : L2[i] = ((s : Int), (b : Int)) := by have := hLi2; rw [List.getElem?_eq_getElem hL2] at this; exact Option.some.inj this
                obtain ⟨bq, oq, nq, cq, rfl, hnq, hbq, cq1, cq2, hnq2, _⟩ := hI4.head hL2
                rw [hLi3] at cq1 cq2
                dsimp only at cq1 cq2
                have hbxw : bx < w4.heap.size := P4.lt
                clear ha hb hI2 hLi3
                replace hx := Lib.hid hx; replace hWj := Lib.hid hWj; replace hc5 := Lib.hid hc5; replace P4 := Lib.hid P4; replace F4 := Lib.hid F4; replace hI4 := Lib.hid hI4; replace hLi2 := Lib.hid hLi2; replace hnq2 := Lib.hid hnq2; replace hO2 := Lib.hid hO2
                by_cases hneg : x1 < 0
                · rw [if_pos hneg] at hsn
                  replace hsn := Lib.hid hsn
                  go_wp2_with fail
                  go_roundg (gk - 1)
                  case measure => omega
                  case rel => exact ⟨j + 1, _, _, by omega, by omega, by go_num, hsn.out.symm, hL2, hLi2.out, hO2.out, hI4.out⟩
                · rw [if_neg hneg] at hsn
                  replace hsn := Lib.hid hsn
                  have hws' := hws.out
                  obtain ⟨w5, hw5⟩ : ∃ x, (w4.alloc (.cells #[.int .i64 x1, .int .i64 (b : Int)] 93)).drew = x := ⟨_, rfl⟩
                  have P5 : Pt w5 w4.heap.size 93 [.int .i64 x1, .int .i64 (b : Int)] := by rw [← hw5]; exact (Pt.newA w4 _ #[.int .i64 x1, .int .i64 (b : Int)]).drew
                  have F5' : Fr [] w4 w5 := by rw [← hw5]; exact ((Fr.refl [] w4).alloc _).drew
                  obtain ⟨bp, hbp⟩ : ∃ x, w4.heap.size = x := ⟨_, rfl⟩
                  rw [hbp] at P5 hbq hbxw
                  have hI5 := hI4.out.frz F5'
                  have IDX := indexP_any _ ls w5 (hS.out.fr hI5.fr) hn 60 #[.pointer (some ⟨bx, 0, none⟩)] (fun y => y.1 == x2) cf_prod2 (fun W x f _ => prod2_any x1 x2 bx x W (f.pt (F5'.pt P4.out (by simp)) (by simp)))
                  replace IDX := Lib.hid IDX; replace P5 := Lib.hid P5; replace F5' := Lib.hid F5'; replace hI5 := Lib.hid hI5; replace hws' := Lib.hid hws'
                  go_wp2_with fail
                  go_region
                  clear ca cb k4 cq1 cq2
                  go_wp2_with fail
                  refine IDX.out.mono ?_
                  rintro e w6 ⟨⟨k, rfl, hk0, hk1⟩, f6⟩
                  have P6' := f6.pt P5.out (by simp)
                  have hI6 := hI5.out.frz f6
                  have k6 := P6'.cell
                  have z6 := P6'.free
                  clear hw4 hw5
                  replace P6' := Lib.hid P6'; replace hI6 := Lib.hid hI6; replace f6 := Lib.hid f6
                  by_cases hkk : 0 ≤ k
                  · as_aux_lemma =>
                      obtain ⟨hkl, hkp, hkf⟩ := hk1 hkk
                      obtain ⟨kn, rfl⟩ : ∃ n : Nat, k = n := ⟨k.toNat, by omega⟩
                      simp only [Int.toNat_natCast] at hkl hkp hkf
                      have hlink := linkF_some ls x2 kn hkl hkp hkf
                      have hev : 0 ≤ ls[kn].2 ∧ ls[kn].2 < B.ev := by
                        have h1 := List.any_eq_false.mp hws'.out _ (List.getElem_mem hkl)
                        simp at h1
                        omega
                      obtain ⟨bS, fS, rfl, hbS, cs1, cs2⟩ := hlS.out kn hkl
                      have hklI : (kn : Int) < ls.length := by omega
                      have sc1 := hI6.out.fr.cell (p := ⟨bS, fS + kn * 2 + 1, none⟩) hbS (by simp)
                      rw [cs2] at sc1
                      obtain ⟨le, hle⟩ : ∃ x, ls[kn].2 = x := ⟨_, rfl⟩
                      rw [hle] at sc1 hev hlink
                      obtain ⟨en, rfl⟩ : ∃ n : Nat, le = n := ⟨le.toNat, by omega⟩
                      have hbr : b < B.rows.length := by omega
                      have hbrI : (b : Int) < B.rows.length := by omega
                      obtain ⟨B3, off3, u3, rfl, hB3, hcB3, o4, cap4, rfl, hu4⟩ := hlB.out b hbr
                      have hrl4 := hVB.out.row _ (List.getElem_mem hbr)
                      have hen : en < B.rows[b].length := by omega
                      have henI : (en : Int) < B.rows[b].length := by omega
                      obtain ⟨B4, off4, rfl, hB4, ca4, cb4⟩ := hu4 en hen
                      obtain ⟨hs1, he1, hat⟩ := hVB.out.get (s := (b : Int)) (e := (en : Int)) (by omega) (by omega) (by omega) (by omega)
                      have hat2 := hVB.out.atOk (s := (b : Int)) (e := (en : Int)) (by omega) (by omega) (by omega) (by omega)
                      simp only [Int.toNat_natCast] at hat
                      have hnb : nextB B ls (b : Int) x2 = B.rows[b][en].1 := by unfold nextB; rw [hlink]; dsimp only; rw [hat]
                      rw [hat] at hat2
                      obtain ⟨nb, hnbe⟩ : ∃ x, B.rows[b][en].1 = x := ⟨_, rfl⟩
                      rw [hnbe] at hat2 hnb ca4
                      have hnr := And.intro hat2.1 hat2.2.1
                      have hsn2 := hsn.out
                      rw [hnb] at hsn2
                      obtain ⟨rl4, hrl4e⟩ : ∃ x, B.rows[b].length = x := ⟨_, rfl⟩
                      have d1 := hI6.out.fr.cell (p := ⟨B3, off3 + b, none⟩) hB3 (by simp)
                      rw [hcB3, hrl4e] at d1
                      have d2 := hI6.out.fr.cell (p := ⟨B4, off4 + en * 2, none⟩) hB4 (by simp)
                      rw [ca4] at d2
                      have d3 := hI6.out.p2.cell
                      rw [hrl4e] at hen henI
                      clear hk1 hkp hkf hlink hat hat2 hnb hnbe hrl4 hrl4e hs1 he1 ca4 cb4 cs1 cs2 hle
                      replace hsn2 := Lib.hid hsn2
                      replace hk0 := Lib.hid hk0
                      replace hcB3 := Lib.hid hcB3
                      replace hu4 := Lib.hid hu4
                      have hI7' : Fr [] w4 ((w6.setCell ⟨bp, 1, none⟩ (.int .i64 nb)).drew) := ((F5'.out.trans f6.out).setCell (.inr (by rw [hbp]; exact Nat.le_refl _)) _).drew
                      have k7 := Lib.hid ((P6'.out.set' (j := 1) (v := .int .i64 nb) (cs' := [.int .i64 x1, .int .i64 nb]) rfl).drew)
                      have hI7 := Lib.hid (hI4.out.frz hI7')
                      obtain ⟨w7, hw7'⟩ : ∃ x, (w6.setCell ⟨bp, 1, none⟩ (.int .i64 nb)).drew = x := ⟨_, rfl⟩
                      rw [hw7'] at k7 hI7
                      have c7 := k7.out.cell
                      clear hI7'
                      go_wp2_with fail
                      go_region
                      clear sc1 d1 d2 d3 k6 z6 hw7'
                      by_cases hnn : nb < 0
                      · have hT : prodT A B ls = none := by
                          have h1 := hsn2.out
                          rw [if_pos hnn] at h1
                          have h2 := hW2.out
                          rw [h1] at h2
                          exact h2.symm
                        have hT' : (-1 : Int) = prodI (prodT A B ls) := by rw [hT]; rfl
                        replace hT := Lib.hid hT; replace hT' := Lib.hid hT'
                        go_wp2_with fail
                        go_ret2
                        exact ⟨by show Ending.returned (.tuple #[.int .i64 (-1), .int .i64 0]) = _; rw [hT'.out], hI7.out.fr⟩
                      · have hsn3 := hsn2.out
                        rw [if_neg hnn] at hsn3
                        have hxr : 0 ≤ ((x1, nb) : Int × Int).1 ∧ ((x1, nb) : Int × Int).1 < A.st ∧ 0 ≤ ((x1, nb) : Int × Int).2 ∧ ((x1, nb) : Int × Int).2 < B.st := by dsimp only; omega
                        by_cases hin : (x1, nb) ∈ L2
                        · have LK := hI7.out.ask hO2.out ta.2 tb.2 (x1, nb) hxr (Fr.refl [] w7)
                          rw [decide_eq_true hin] at LK
                          rw [if_pos hin] at hsn3
                          dsimp only at LK
                          replace hsn3 := Lib.hid hsn3; replace hin := Lib.hid hin; replace hxr := Lib.hid hxr
                          go_wp2_with fail
                          go_roundg (gk - 1)
                          case measure => omega
                          case rel => exact ⟨j + 1, _, _, by omega, by omega, by go_num, hsn3.out.symm, hL2, hLi2.out, hO2.out, hI7.out⟩
                        · have LK := hI7.out.ask hO2.out ta.2 tb.2 (x1, nb) hxr (Fr.refl [] w7)
                          rw [decide_eq_false hin] at LK
                          rw [if_neg hin] at hsn3
                          obtain ⟨w8', UP, M8', f8⟩ := hI7.out.put hO2.out ta.2 tb.2 (x1, nb) hxr hin (Fr.refl [] w7)
                          have hO3 := hO2.out.step (x1, nb) hxr hin
                          have k8 := f8.pt k7.out (by simp; have := hI7.out.mp.lt; have := hI4.out.mp.lt; omega)
                          have k8' := k8.cell
                          obtain ⟨v', w9, bo', happ, hI9⟩ := hI7.out.add (by have := hO2.out.le ta.2 tb.2; omega) (by omega) (x1, nb) (Fr.refl [] w7) M8' f8
                          dsimp only at LK UP happ
                          have hL3 : (L2 ++ [(x1, nb)])[i]? = some ((s : Int), (b : Int)) := by rw [List.getElem?_append_left hL2]; exact hLi2.out
                          replace hsn3 := Lib.hid hsn3; replace hin := Lib.hid hin; replace hxr := Lib.hid hxr; replace hI9 := Lib.hid hI9; replace hO3 := Lib.hid hO3; replace hL3 := Lib.hid hL3; replace M8' := Lib.hid M8'; replace f8 := Lib.hid f8; replace k8 := Lib.hid k8; replace happ := Lib.hid happ
                          go_wp2_with (first | (at_builtin; refine wpList_append_run _ rfl _ _ _ rfl rfl rfl happ.out ?_))
                          go_roundg (gk - 1)
                          case measure => omega
                          case rel => exact ⟨j + 1, _, _, by omega, by omega, by go_num, hsn3.out.symm, by simp; omega, hL3.out, hO3.out, hI9.out⟩
                  · as_aux_lemma =>
                      have hany : (ls.any fun y => y.1 == x2) = false := by rw [← hk0, decide_eq_false hkk]
                      have hnb : nextB B ls (b : Int) x2 = (b : Int) := by unfold nextB; rw [linkF_none ls x2 hany]
                      have hsn2' := hsn.out
                      rw [hnb] at hsn2'
                      obtain ⟨nb, hnbe⟩ : ∃ x : Int, (b : Int) = x := ⟨_, rfl⟩
                      have hsn2 : R = if nb < 0 then none else prodRow B ls (b : Int) (row.drop (j + 1)) (if (x1, nb) ∈ L2 then L2 else L2 ++ [(x1, nb)]) := by rw [← hnbe]; exact hsn2'
                      clear hsn2'
                      have hkneg : k < 0 := by omega
                      have k7 := Lib.hid P6'.out
                      have hI7 := Lib.hid hI6.out
                      obtain ⟨w7, hw7'⟩ : ∃ x, w6 = x := ⟨_, rfl⟩
                      subst hw7'
                      rw [hnbe] at k6 k7
                      have hnr : -1 ≤ nb ∧ nb < B.st := by omega
                      have hnnb : ¬ nb < 0 := by omega
                      replace hsn2 := Lib.hid hsn2; replace hnb := Lib.hid hnb; replace hnbe := Lib.hid hnbe; replace hany := Lib.hid hany; replace hk0 := Lib.hid hk0
                      clear hk1 z6
                      by_cases hnn : nb < 0
                      · exact absurd hnn hnnb
                      · have hsn3 := hsn2.out
                        rw [if_neg hnn] at hsn3
                        have hxr : 0 ≤ ((x1, nb) : Int × Int).1 ∧ ((x1, nb) : Int × Int).1 < A.st ∧ 0 ≤ ((x1, nb) : Int × Int).2 ∧ ((x1, nb) : Int × Int).2 < B.st := by dsimp only; omega
                        by_cases hin : (x1, nb) ∈ L2
                        · have LK := hI7.out.ask hO2.out ta.2 tb.2 (x1, nb) hxr (Fr.refl [] w6)
                          rw [decide_eq_true hin] at LK
                          rw [if_pos hin] at hsn3
                          dsimp only at LK
                          replace hsn3 := Lib.hid hsn3; replace hin := Lib.hid hin; replace hxr := Lib.hid hxr
                          go_wp2_with fail
                          go_roundg (gk - 1)
                          case measure => omega
                          case rel => exact ⟨j + 1, _, _, by omega, by omega, by go_num, hsn3.out.symm, hL2, hLi2.out, hO2.out, hI7.out⟩
                        · have LK := hI7.out.ask hO2.out ta.2 tb.2 (x1, nb) hxr (Fr.refl [] w6)
                          rw [decide_eq_false hin] at LK
                          rw [if_neg hin] at hsn3
                          obtain ⟨w8', UP, M8', f8⟩ := hI7.out.put hO2.out ta.2 tb.2 (x1, nb) hxr hin (Fr.refl [] w6)
                          have hO3 := hO2.out.step (x1, nb) hxr hin
                          have k8 := f8.pt k7.out (by simp; have := hI7.out.mp.lt; have := hI4.out.mp.lt; omega)
                          have k8' := k8.cell
                          obtain ⟨v', w9, bo', happ, hI9⟩ := hI7.out.add (by have := hO2.out.le ta.2 tb.2; omega) (by omega) (x1, nb) (Fr.refl [] w6) M8' f8
                          dsimp only at LK UP happ
                          have hL3 : (L2 ++ [(x1, nb)])[i]? = some ((s : Int), (b : Int)) := by rw [List.getElem?_append_left hL2]; exact hLi2.out
                          replace hsn3 := Lib.hid hsn3; replace hin := Lib.hid hin; replace hxr := Lib.hid hxr; replace hI9 := Lib.hid hI9; replace hO3 := Lib.hid hO3; replace hL3 := Lib.hid hL3; replace M8' := Lib.hid M8'; replace f8 := Lib.hid f8; replace k8 := Lib.hid k8; replace happ := Lib.hid happ
                          go_wp2_with (first | (at_builtin; refine wpList_append_run _ rfl _ _ _ rfl rfl rfl happ.out ?_))
                          go_roundg (gk - 1)
                          case measure => omega
                          case rel => exact ⟨j + 1, _, _, by omega, by omega, by go_num, hsn3.out.symm, by simp; omega, hL3.out, hO3.out, hI9.out⟩
              · have hltJ : ¬ (j : Int) < row.length := by omega
                rw [List.drop_eq_nil_of_le (by omega)] at hWj
                obtain ⟨bq, oq, nq, cq, rfl, hnq, hbq, cq1, cq2, hnq2, hpop⟩ := hI2.head hL2
                have hR2 : some L2 = R := hWj
                have hW3 := hW2.out
                rw [← hR2] at hW3
                have hW4 : prodF A B ls g' (i + 1) L2 = prodT A B ls := hW3
                have hle2 := hO2.le ta.2 tb.2
                clear hWj hR2 hW3 cq1 cq2
                replace hnq2 := Lib.hid hnq2
                replace hW4 := Lib.hid hW4; replace hO2 := Lib.hid hO2; replace hI2 := Lib.hid hI2; replace hLi2 := Lib.hid hLi2
                by_cases hc1 : cq = 1
                · obtain ⟨o', hI3⟩ := hpop _ rfl
                  rw [if_pos hc1] at hI3
                  subst hc1
                  obtain rfl : nq = 0 := by omega
                  replace hI3 := Lib.hid hI3
                  clear hpop
                  go_wp2_with fail
                  go_roundg g'
                  case measure => omega
                  case rel => exact ⟨i + 1, _, _, by omega, hW4.out, by omega, hO2.out, hI3.out⟩
                · obtain ⟨o', hI3⟩ := hpop _ rfl
                  rw [if_neg hc1] at hI3
                  have hc2 : 1 < cq := by omega
                  have hc3 : ¬ cq = 1 := hc1
                  replace hI3 := Lib.hid hI3
                  clear hpop hc1
                  go_wp2_with fail
                  go_roundg g'
                  case measure => omega
                  case rel => exact ⟨i + 1, _, _, by omega, hW4.out, by omega, hO2.out, hI3.out⟩
          · have hie : i = L.length := by omega
            have hT : prodT A B ls = some L := by rw [← hW, prodF_more _ _ _ _ _ _ (by omega)]
            have hml := hI.mp.len (P := Try.prog) (t := 95) (by kernel_rfl) 3
            rw [prK_len] at hml
            obtain ⟨oo, n, co, rfl, hn0⟩ : ∃ oo n co, u10 = .slice oo n co ∧ n = 0 := by
              obtain ⟨oo, co, e⟩ := hI.q.len
              exact ⟨oo, _, co, e, by simp; omega⟩
            subst hn0
            replace hI := Lib.hid hI; replace hO := Lib.hid hO; replace hT := Lib.hid hT; replace hW := Lib.hid hW; replace hie := Lib.hid hie
            go_wp2_with fail
            go_ret2
            exact ⟨by rw [hT.out]; rfl, hI.out.fr⟩
      · have hx : X = (0, 1) := by rw [← hX'.out]; unfold productF joinOk; rw [if_neg (by simp only [hva.out, hvb.out, hws]; simp)]
        subst hx
        replace hws := Lib.hid hws
        go_wp2_with fail
        go_ret2
        exact ⟨rfl, F5.out⟩
end Go.Proofs.Ytnggimkkjdipmaa
