import Derived.Test.YtnggimkkjdipmaaTM1
import Derived.Test.YtnggimkkjdipmaaTC7
namespace Go.Proofs.Ytnggimkkjdipmaa
open Go.RowKit
set_option linter.unusedVariables false
set_option linter.unusedSimpArgs false
set_option maxHeartbeats 16000000
set_option maxRecDepth 100000
/-! ### mutants: what it hands to a function, one by one -/
def MuR (E : List Nat) (w : World) (N : Nat) (go : Nat → Bool) (J : Nat → World → Prop) (e : Ending) (w' : World) : Prop :=
  ∃ k, e = .returned (.tuple #[]) ∧ k ≤ N ∧ J k w' ∧ Fr E w w' ∧ (∀ i, i + 1 < k → go i = true) ∧ (k = N ∨ ∃ q, k = q + 1 ∧ go q = false)
theorem mutants_any (T : Tb) (r : Value) (w00 w : World) (hR : RIn w00 r T.rows) (hV : VT T) (f0 : Fr [] w00 w) (gf : FuncId) (bs : Array Value) (hcf : ∀ W args, (callFunc gf args).run Try.prog W = .ok (.enter gf args) W) (E : List Nat) (hE : ∀ x ∈ E, w00.heap.size ≤ x ∧ x < w.heap.size)
    (go : Nat → Bool) (J : Nat → World → Prop) (hJ : ∀ i W W', J i W → Fr [] W W' → J i W') (h0 : J 0 w)
    (hy : ∀ (P : List Mut) (x : Mut) (R : List Mut), mutL T = P ++ x :: R → ∀ W, J P.length W → Fr E w W → Calls Try.prog gf (#[.int .i64 x.1, .int .i64 x.2.1, .agg #[.int .i64 x.2.2.1, .int .i64 x.2.2.2]] ++ bs) W fun e W' => e = .returned (.bool (go P.length)) ∧ J (P.length + 1) W' ∧ Fr E W W') :
    Calls Try.prog 70 #[.agg #[.int .i64 T.st, .int .i64 T.ev, .int .i64 T.sr, r], .func (.func gf) #[] bs] w (MuR E w (mutL T).length go J) := by
  have hrl := hV.rows
  have hst := hV.st
  have hl30 := reachL_len hV
  obtain ⟨n, hn⟩ : ∃ n : Nat, T.st.toNat = n := ⟨_, rfl⟩
  have hnI : T.st = (n : Int) := by omega
  have hn30 : n ≤ 30 := by omega
  obtain ⟨w1, hw1⟩ : ∃ x, w.alloc (.cells #[.int .i64 T.st, .int .i64 T.ev, .int .i64 T.sr, r] TTab) = x := ⟨_, rfl⟩
  have P1 := Pt.newA w TTab #[.int .i64 T.st, .int .i64 T.ev, .int .i64 T.sr, r]
  rw [hw1] at P1
  have F1 : Fr [] w w1 := by rw [← hw1]; exact (Fr.refl [] w).alloc _
  obtain ⟨b1, hb1⟩ : ∃ x, w.heap.size = x := ⟨_, rfl⟩
  rw [hb1] at P1
  have k1 := P1.cell
  have hb1E : b1 ∉ E := fun hm => by have := hE b1 hm; omega
  have RE := reach_fresh T _ w1 ⟨r, rfl, hR.fr (f0.trans F1)⟩ hV
  obtain ⟨N, hN⟩ : ∃ n, (reachL T).length = n := ⟨_, rfl⟩
  have J1 := hJ _ _ _ h0 F1
  have wb1 : w.heap.size ≤ b1 := by omega
  have s1 := F1.size
  replace P1 := Lib.hid P1; replace F1 := Lib.hid F1; replace hV := Lib.hid hV; replace hrl := Lib.hid hrl; replace hst := Lib.hid hst; replace hn := Lib.hid hn; replace hnI := Lib.hid hnI; replace RE := Lib.hid RE; replace hE := Lib.hid hE; replace hJ := Lib.hid hJ; replace hy := Lib.hid hy; replace f0 := Lib.hid f0; replace hR := Lib.hid hR; replace hb1E := Lib.hid hb1E; replace h0 := Lib.hid h0; replace J1 := Lib.hid J1
  go_enter Try.func70, Try.ntmps70
  go_wp2_with fail
  refine RE.out.mono ?_
  rintro e w3 ⟨ov, rfl, ⟨o, cap, rfl, hns⟩, f3⟩
  have F3 := F1.out.trans f3
  have P3 := f3.pt P1.out (by simp)
  have J3 := hJ.out _ _ _ J1.out f3
  have F3E : Fr E w w3 := F3.mono (by simp)
  have s3 := f3.size
  rw [hN] at hl30 ⊢
  replace f3 := Lib.hid f3; replace F3 := Lib.hid F3; replace F3E := Lib.hid F3E; replace P3 := Lib.hid P3; replace hns := Lib.hid hns; replace hN := Lib.hid hN; replace J3 := Lib.hid J3
  clear k1 hw1 hb1
  go_wp2_with fail
  go_loopg [13] (N + 1) (fun k v13 wr => ∃ i : Nat, i ≤ N ∧ k + i = N + 1 ∧ v13 = .int .i64 i ∧ (∀ q, q < (mutTo T i).length → go q = true) ∧ J (mutTo T i).length wr ∧ Fr E w3 wr)
  case atStart => exact ⟨0, by omega, by omega, rfl, by simp [mutTo], J3.out, Fr.refl _ _⟩
  case round =>
    obtain ⟨i, hi, hk, rfl, hgo, hJi, hF⟩ := hrel
    obtain ⟨wi, rfl⟩ : ∃ x : World, x = wr := ⟨_, rfl⟩
    obtain ⟨gi, rfl⟩ : ∃ g : Nat, g = gk := ⟨_, rfl⟩
    by_cases hlt : i < N
    · have hltI : (i : Int) < N := by omega
      have hlt' : i < (reachL T).length := by rw [hN.out]; exact hlt
      obtain ⟨bN, oN, rfl, hbN, hqN, cN⟩ := hns.out i hlt'
      have hsr := (order_ok hV.out).rng _ ((reachL_mem hV.out _).mp (List.getElem_mem hlt'))
      obtain ⟨s, hs⟩ : ∃ s : Nat, (reachL T)[i] = (s : Int) := ⟨(reachL T)[i].toNat, by omega⟩
      rw [hs] at cN hsr
      have cN' := hF.cell (p := ⟨bN, oN + i, none⟩) hbN (fun hm => by have := hE.out bN hm; omega)
      rw [cN] at cN'
      have hsR : s < T.rows.length := by have := hrl.out; omega
      have hsRI : (s : Int) < T.rows.length := by omega
      obtain ⟨oR, cR, rfl, hlR⟩ := hR.out
      obtain ⟨BB, off, u, rfl, hBB, hcB, o2, cap2, rfl, hu⟩ := hlR s hsR
      obtain ⟨row, hrow⟩ : ∃ row, T.rows[s] = row := ⟨_, rfl⟩
      have hrow2 : T.rows.getD s [] = row := by rw [List.getD_eq_getElem?_getD, List.getElem?_eq_getElem hsR, hrow]; rfl
      have G00 : Fr [] w00 wi := (f0.out.trans F3.out).step hF (fun x hx => .inr (hE.out x hx).1)
      have c1 := G00.cell (p := ⟨BB, off + s, none⟩) hBB (by simp)
      rw [hcB, hrow] at c1
      rw [hrow] at hu
      have hl12 := row12 hV.out s
      rw [hrow2] at hl12
      have hcells := hV.out.cell _ (List.getElem_mem hsR)
      rw [hrow] at hcells
      have hsucc := mutTo_succ T i hlt' s hs row hrow2
      have kA := (hF.pt P3.out hb1E.out).cell
      have hfirst := fun j hj r hr hn => mut_first T i hlt' s hs row hrow2 j hj r hr hn
      have hmore := fun j hj r hr hn k hk hkr => mut_more T i hlt' s hs row hrow2 j hj r hr hn k hk hkr
      replace hF := Lib.hid hF; replace hu := Lib.hid hu; replace hsucc := Lib.hid hsucc; replace hrow := Lib.hid hrow; replace hrow2 := Lib.hid hrow2; replace hs := Lib.hid hs; replace hcB := Lib.hid hcB; replace cN := Lib.hid cN; replace hlR := Lib.hid hlR; replace G00 := Lib.hid G00; replace hgo := Lib.hid hgo; replace hJi := Lib.hid hJi; replace hcells := Lib.hid hcells; replace hfirst := Lib.hid hfirst; replace hmore := Lib.hid hmore; replace hqN := Lib.hid hqN
      go_wp2_with fail
      clear kA cN' c1
      go_loopg [23] (row.length + 1) (fun k v23 wr => ∃ j : Nat, j ≤ row.length ∧ k + j = row.length + 1 ∧ v23 = .int .i64 j ∧ (∀ q, q < (mutTo T i ++ mutRows T s 0 (row.take j)).length → go q = true) ∧ J (mutTo T i ++ mutRows T s 0 (row.take j)).length wr ∧ Fr E w3 wr)
      case atStart => exact ⟨0, by omega, by omega, rfl, by simpa [mutRows] using hgo.out, by simpa [mutRows] using hJi.out, hF.out⟩
      clear hgo hJi hF G00
      case round =>
        obtain ⟨j, hj, hk2, rfl, hgo, hJi, hF⟩ := hrel
        obtain ⟨wj, rfl⟩ : ∃ x : World, x = wr := ⟨_, rfl⟩
        obtain ⟨gj, rfl⟩ : ∃ g : Nat, g = gk := ⟨_, rfl⟩
        by_cases hjl : j < row.length
        · have hjlI : (j : Int) < row.length := by omega
          obtain ⟨B2, off2, rfl, hB2, a1, a2⟩ := hu.out j hjl
          have G00 : Fr [] w00 wj := (f0.out.trans F3.out).step hF (fun x hx => .inr (hE.out x hx).1)
          have c1 := G00.cell (p := ⟨B2, off2 + j * 2, none⟩) hB2 (by simp)
          have c2 := G00.cell (p := ⟨B2, off2 + j * 2 + 1, none⟩) hB2 (by simp)
          rw [a1] at c1
          rw [a2] at c2
          have hce := hcells.out _ (List.getElem_mem hjl)
          obtain ⟨⟨x1, x2⟩, hx⟩ : ∃ x, row[j] = x := ⟨_, rfl⟩
          rw [hx] at c1 c2 hce
          dsimp only at c1 c2 hce
          obtain ⟨w4, hw4⟩ : ∃ x, wj.alloc (.cells #[.int .i64 x1, .int .i64 x2] TRow) = x := ⟨_, rfl⟩
          have P4 := Pt.newA wj TRow #[.int .i64 x1, .int .i64 x2]
          rw [hw4] at P4
          have F4 : Fr [] wj w4 := by rw [← hw4]; exact (Fr.refl [] wj).alloc _
          obtain ⟨b4, hb4⟩ : ∃ x, wj.heap.size = x := ⟨_, rfl⟩
          rw [hb4] at P4
          have k4 := P4.cell
          have G4 := hF.trans (F4.mono (by simp))
          have J4 := hJ.out _ _ _ hJi F4
          have htk := mutRows_take T s row j hjl
          have hb4E : b4 ∉ E := fun hm => by have := hE.out b4 hm; have := hF.size; omega
          rw [hx] at htk
          obtain ⟨hc1, hc2, hc3, hc4, hc5⟩ := hce
          clear a1 a2
          by_cases hneg : x1 < 0
          · as_aux_lemma =>
            have hro : mutRow T s j (x1, x2) = [] := by unfold mutRow; rw [if_pos hneg]
            rw [hro, List.append_nil] at htk
            have hgo' := hgo
            rw [← htk] at hgo' J4
            replace hF := Lib.hid hF; replace hgo := Lib.hid hgo; replace hgo' := Lib.hid hgo'; replace hJi := Lib.hid hJi; replace J4 := Lib.hid J4; replace htk := Lib.hid htk; replace P4 := Lib.hid P4; replace F4 := Lib.hid F4; replace G4 := Lib.hid G4; replace hx := Lib.hid hx; replace hro := Lib.hid hro; replace G00 := Lib.hid G00; replace hc5 := Lib.hid hc5; replace hb4E := Lib.hid hb4E
            go_wp2_with fail
            go_roundg (gj - 1)
            case measure => omega
            case rel => exact ⟨j + 1, by omega, by omega, by go_num, hgo'.out, J4.out, G4.out⟩
          · have hge : 0 ≤ x1 := by omega
            obtain ⟨R1, hR1⟩ := hfirst.out j hjl (x1, x2) hx hge
            have YC := hy.out _ _ _ hR1 w4 J4 (F3E.out.trans G4)
            obtain ⟨gq, hgq⟩ : ∃ b, go (mutTo T i ++ mutRows T s 0 (row.take j)).length = b := ⟨_, rfl⟩
            rw [hgq] at YC
            have hkN : (mutTo T i ++ mutRows T s 0 (row.take j)).length + 1 ≤ (mutL T).length := by rw [hR1]; simp only [List.length_append, List.length_cons]; omega
            have hlenI := fun k => mutIn_succ T i s row j (x1, x2) k
            have hlen0 := mutIn_zero T i s row j (x1, x2)
            have hlenA := mutIn_all T i s row j hjl (x1, x2) hx hge
            have hmo := hmore.out j hjl (x1, x2) hx hge
            rw [hn.out] at hmo hlenA
            have P5 := (G4.pt P3.out hb1E.out)
            have k1 := P5.cell
            obtain ⟨rp, hrp⟩ : ∃ y, (x1, x2) = y := ⟨_, rfl⟩
            have hrp1 : rp.1 = x1 := by rw [← hrp]
            have hrp2 : rp.2 = x2 := by rw [← hrp]
            rw [hrp] at hlen0 hlenA hmo
            simp only [hrp] at hlenI
            obtain ⟨ML, hML⟩ : ∃ x, mutTo T i ++ mutRows T s 0 (row.take j) = x := ⟨_, rfl⟩
            rw [hML] at YC hgq hkN hgo J4 hlen0
            obtain ⟨ox, hox⟩ : ∃ y, outM x2 = y := ⟨_, rfl⟩
            dsimp only at YC
            rw [hox] at YC
            replace hF := Lib.hid hF; replace hgo := Lib.hid hgo; replace hJi := Lib.hid hJi; replace J4 := Lib.hid J4; replace htk := Lib.hid htk; replace P4 := Lib.hid P4; replace F4 := Lib.hid F4; replace G4 := Lib.hid G4; replace hx := Lib.hid hx; replace G00 := Lib.hid G00; replace hc5 := Lib.hid hc5; replace hb4E := Lib.hid hb4E; replace hlen0 := Lib.hid hlen0; replace hlenI := Lib.hid hlenI; replace hlenA := Lib.hid hlenA; replace hmo := Lib.hid hmo; replace hML := Lib.hid hML; replace hR1 := Lib.hid hR1; replace hgq := Lib.hid hgq; replace P5 := Lib.hid P5; replace YC := Lib.hid YC; replace hkN := Lib.hid hkN; replace hrp := Lib.hid hrp; replace hrp1 := Lib.hid hrp1; replace hrp2 := Lib.hid hrp2
            by_cases h9 : x2 = 999
            all_goals
              have hoy : ox = if x2 = 999 then 998 else x2 + 1 := by rw [← hox]; rfl
              clear hox
              first
              | (rw [if_pos h9] at hoy; subst hoy; subst h9)
              | (rw [if_neg h9] at hoy; subst hoy; have h9b : (x2 == 999) = false := by simpa using h9)
              go_wp2_with fail
              try rw [hcf]
              refine YC.out.mono ?_
              rintro e w5 ⟨rfl, J5, f5⟩
              have G5 := G4.out.trans f5
              clear k4 k1
              cases gq
              · as_aux_lemma =>
                have GO : MuR E w (mutL T).length go J (.returned (.tuple #[])) w5 := ⟨ML.length + 1, rfl, hkN.out, J5, F3E.out.trans G5, fun q hq => hgo.out q (by omega), .inr ⟨_, rfl, hgq.out⟩⟩
                replace J5 := Lib.hid J5; replace f5 := Lib.hid f5; replace G5 := Lib.hid G5; replace GO := Lib.hid GO
                go_wp2_with fail
                first | go_end0 | (simp only [Exit.inBlock, Exit.then]; refine bodyPost_ret (results_none rfl _ _ _) rfl ?_) | (refine bodyPost_ret (results_none rfl _ _ _) rfl ?_)
                exact GO.out
              · have hgo5 : ∀ q, q < ML.length + 1 → go q = true := fun q hq => by
                  by_cases e : q < ML.length
                  · exact hgo.out q e
                  · rw [show q = ML.length by omega]; exact hgq.out
                have J5' : J (mutIn T i s row j rp 0).length w5 := by rw [hlen0.out]; simpa using J5
                have hgo5' : ∀ q, q < (mutIn T i s row j rp 0).length → go q = true := by rw [hlen0.out]; simpa using hgo5
                have k1 := (f5.pt P5.out hb1E.out).cell
                have k4 := (f5.pt P4.out hb4E.out).cell
                have k10 := k1 0
                rw [hnI.out] at k1
                replace J5 := Lib.hid J5; replace J5' := Lib.hid J5'; replace hgo5 := Lib.hid hgo5; replace hgo5' := Lib.hid hgo5'; replace f5 := Lib.hid f5; replace G5 := Lib.hid G5; replace k10 := Lib.hid k10
                go_wp2_with fail
                clear k1 k4
                go_loopg [48] (n + 1) (fun k v48 wr => ∃ c : Nat, c ≤ n ∧ k + c = n + 1 ∧ v48 = .int .i64 c ∧ (∀ q, q < (mutIn T i s row j rp c).length → go q = true) ∧ J (mutIn T i s row j rp c).length wr ∧ Fr E w5 wr)
                case atStart => exact ⟨0, by omega, by omega, rfl, hgo5'.out, J5'.out, Fr.refl _ _⟩
                clear hgo5 hgo5' J5 J5' hgo
                case round =>
                  obtain ⟨c, hc, hk3, rfl, hgo, hJc, hFc⟩ := hrel
                  have G6 := G5.out.trans hFc
                  have k4 := (hFc.pt (f5.out.pt P4.out hb4E.out) hb4E.out).cell
                  by_cases hcn : c < n
                  · have hcnI : (c : Int) < n := by omega
                    have hls := hlenI.out c
                    by_cases hcx : (c : Int) = x1
                    · as_aux_lemma =>
                      rw [if_pos hcx, List.append_nil] at hls
                      rw [← hls] at hgo hJc
                      have hcb : ((c : Int) != x1) = false := by simp [hcx]
                      replace hgo := Lib.hid hgo; replace hJc := Lib.hid hJc; replace hls := Lib.hid hls; replace hFc := Lib.hid hFc; replace G6 := Lib.hid G6; replace hcx := Lib.hid hcx
                      go_wp2_with fail
                      go_roundg (gk - 1)
                      case measure => omega
                      case rel => exact ⟨c + 1, by omega, by omega, by go_num, hgo.out, hJc.out, hFc.out⟩
                    · as_aux_lemma =>
                      rw [if_neg hcx] at hls
                      obtain ⟨R6, hR6⟩ := hmo.out c hcn (by rw [hrp1.out]; exact hcx)
                      have YC6 := hy.out _ _ _ hR6 wr hJc (F3E.out.trans G6)
                      obtain ⟨gq6, hgq6⟩ : ∃ b, go (mutIn T i s row j rp c).length = b := ⟨_, rfl⟩
                      rw [hgq6] at YC6
                      obtain ⟨M6, hM6⟩ : ∃ m, (mutIn T i s row j rp c).length = m := ⟨_, rfl⟩
                      rw [hM6] at YC6
                      dsimp only at YC6
                      rw [hrp2.out] at YC6
                      have hkN6 : (mutIn T i s row j rp c).length + 1 ≤ (mutL T).length := by rw [hR6]; simp only [List.length_append, List.length_cons]; omega
                      have hcb : ((c : Int) != x1) = true := by simp [hcx]
                      have hln6 : (mutIn T i s row j rp (c + 1)).length = (mutIn T i s row j rp c).length + 1 := by rw [hls]; simp
                      rw [hM6] at hkN6 hgo hgq6 hln6
                      replace hgo := Lib.hid hgo; replace hJc := Lib.hid hJc; replace hls := Lib.hid hls; replace hFc := Lib.hid hFc; replace G6 := Lib.hid G6; replace hcx := Lib.hid hcx; replace hR6 := Lib.hid hR6; replace hgq6 := Lib.hid hgq6; replace YC6 := Lib.hid YC6; replace hkN6 := Lib.hid hkN6; replace hln6 := Lib.hid hln6; replace hM6 := Lib.hid hM6
                      go_wp2_with fail
                      try rw [hcf]
                      refine YC6.out.mono ?_
                      rintro e w7 ⟨rfl, J7, f7⟩
                      cases gq6
                      · have GO : MuR E w (mutL T).length go J (.returned (.tuple #[])) w7 := ⟨_, rfl, hkN6.out, J7, F3E.out.trans (G6.out.trans f7), fun q hq => hgo.out q (by omega), .inr ⟨_, rfl, hgq6.out⟩⟩
                        replace J7 := Lib.hid J7; replace f7 := Lib.hid f7; replace GO := Lib.hid GO
                        go_wp2_with fail
                        first | go_end0 | (simp only [Exit.inBlock, Exit.then]; refine bodyPost_ret (results_none rfl _ _ _) rfl ?_) | (refine bodyPost_ret (results_none rfl _ _ _) rfl ?_)
                        exact GO.out
                      · have hgo7 : ∀ q, q < (mutIn T i s row j rp (c + 1)).length → go q = true := fun q hq => by
                          rw [hln6.out] at hq
                          by_cases e : q < M6
                          · exact hgo.out q e
                          · rw [show q = M6 by omega]; exact hgq6.out
                        rw [← hln6.out] at J7
                        have F7 := hFc.out.trans f7
                        replace J7 := Lib.hid J7; replace f7 := Lib.hid f7; replace F7 := Lib.hid F7; replace hgo7 := Lib.hid hgo7
                        go_wp2_with fail
                        go_roundg (gk - 1)
                        case measure => omega
                        case rel => exact ⟨c + 1, by omega, by omega, by go_num, hgo7.out, J7.out, F7.out⟩
                  · as_aux_lemma =>
                    have hcnI : ¬ (c : Int) < n := by omega
                    obtain rfl : c = n := by omega
                    rw [hlenA.out] at hgo hJc
                    replace hgo := Lib.hid hgo; replace hJc := Lib.hid hJc; replace hFc := Lib.hid hFc; replace G6 := Lib.hid G6
                    go_wp2_with fail
                    go_roundg (gj - 1)
                    case measure => omega
                    case rel => exact ⟨j + 1, by omega, by omega, by go_num, hgo.out, hJc.out, G6.out⟩
        · as_aux_lemma =>
          have hjlI : ¬ (j : Int) < row.length := by omega
          have htk : row.take j = row := List.take_of_length_le (by omega)
          rw [htk, ← hsucc.out] at hgo hJi
          replace hgo := Lib.hid hgo; replace hJi := Lib.hid hJi; replace hF := Lib.hid hF
          go_wp2_with fail
          go_roundg (gi - 1)
          case measure => omega
          case rel => exact ⟨i + 1, by omega, by omega, by go_num, hgo.out, hJi.out, hF.out⟩
    · as_aux_lemma =>
      have hltI : ¬ (i : Int) < N := by omega
      obtain rfl : i = N := by omega
      have hall := mutTo_all T
      rw [hN.out] at hall
      rw [hall] at hgo hJi
      have GO : MuR E w (mutL T).length go J (.returned (.tuple #[])) wi := ⟨_, rfl, Nat.le_refl _, hJi, F3E.out.trans hF, fun q hq => hgo q (by omega), .inl rfl⟩
      replace hgo := Lib.hid hgo; replace hJi := Lib.hid hJi; replace hF := Lib.hid hF; replace GO := Lib.hid GO; replace hall := Lib.hid hall
      go_wp2_with fail
      first | go_end0 | (simp only [Exit.inBlock, Exit.then]; refine bodyPost_ret (results_none rfl _ _ _) rfl ?_) | (refine bodyPost_ret (results_none rfl _ _ _) rfl ?_)
      exact GO.out
end Go.Proofs.Ytnggimkkjdipmaa
