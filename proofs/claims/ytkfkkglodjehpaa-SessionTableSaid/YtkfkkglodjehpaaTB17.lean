import Derived.Test.YtkfkkglodjehpaaTB16
namespace Go.Proofs.Ytkfkkglodjehpaa
open Go.RowKit
set_option linter.unusedVariables false
set_option linter.unusedSimpArgs false
set_option maxHeartbeats 16000000
set_option maxRecDepth 100000
theorem walk_any (T : Tb) (v : Value) (w : World) (hT : TIn w v T) (hV : VT T) :
    Calls Try.prog 20 #[v] w fun e w' => ∃ r bt bm ov bo M, e = .returned (.tuple #[ov, .map (some bm)]) ∧ WkI T w bt bm r (walkT T) w' ov bo M ∧ WOk T (walkT T) := by
  obtain ⟨r, rfl, hR⟩ := hT
  have hval : T.val r = .agg #[.int .i64 T.st, .int .i64 T.ev, .int .i64 T.sr, r] := rfl
  rw [hval]
  clear hval
  have hst := hV.st; have hrl := hV.rows
  have hlen30 : T.rows.length ≤ 30 := by omega
  obtain ⟨o, cap, rfl, hl⟩ := hR
  obtain ⟨w0, hw0⟩ : ∃ x, w.alloc (.cells #[.int .i64 T.st, .int .i64 T.ev, .int .i64 T.sr, .slice o T.rows.length cap] TTab) = x := ⟨_, rfl⟩
  have P0 := Pt.newA w TTab #[.int .i64 T.st, .int .i64 T.ev, .int .i64 T.sr, .slice o T.rows.length cap]
  rw [hw0] at P0
  have F0 : Fr [] w w0 := by rw [← hw0]; exact (Fr.refl [] w).alloc _
  obtain ⟨bt, hbt⟩ : ∃ x, w.heap.size = x := ⟨_, rfl⟩
  rw [hbt] at P0
  have k0 := P0.cell
  have l0 := P0.lt
  replace hl := Lib.hid hl; replace P0 := Lib.hid P0; replace F0 := Lib.hid F0; replace hrl := Lib.hid hrl; replace hst := Lib.hid hst
  go_enter Try.func20, Try.ntmps20
  go_wp2_with fail
  have hmm := fun t w => run_makeMap (P := Try.prog) t w
  have hi1 := first1
  have hi2 := first2
  have hi3 := first3
  have hz := size_put
  have l1 : bt < w0.heap.size + 1 := by omega
  have l2 : bt < w0.heap.size + 1 + 1 := by omega
  have l3 : bt < w0.heap.size + 2 := by omega
  have l4 : ¬ bt = w0.heap.size := by omega
  have l5 : ¬ bt = w0.heap.size + 1 := by omega
  have l6 : ¬ bt = w0.heap.size + 1 + 1 := by omega
  have l7 : ¬ bt = w0.heap.size + 2 := by omega
  have hc0 : ∀ (W : World) es n, (W.putObj w0.heap.size (.map es n)).cell? ⟨bt, 2, none⟩ = W.cell? ⟨bt, 2, none⟩ := fun W es n => cell_put _ _ _ _ _ (by show bt ≠ _; omega)
  have hc1 : ∀ (W : World) es n, (W.putObj (w0.heap.size + 1) (.map es n)).cell? ⟨bt, 2, none⟩ = W.cell? ⟨bt, 2, none⟩ := fun W es n => cell_put _ _ _ _ _ (by show bt ≠ _; omega)
  have hc2 : ∀ (W : World) es n, (W.putObj (w0.heap.size + 1 + 1) (.map es n)).cell? ⟨bt, 2, none⟩ = W.cell? ⟨bt, 2, none⟩ := fun W es n => cell_put _ _ _ _ _ (by show bt ≠ _; omega)
  have hwb : w.heap.size ≤ bt := by omega
  go_cut [2, 3] from 9 to 16 (fun v2 v3 wx => ∃ (bo bm be : Nat), v2 = .slice (some ⟨bo, 0, none⟩) 1 1 ∧ v3 = .map (some bm) ∧ WkI T w bt bm (.slice o T.rows.length cap) [(T.sr, [])] wx v2 (some bo) [(T.sr, .slice (some ⟨be, 0, none⟩) 0 0)])
  case first =>
    go_region
    all_goals
      go_wp2_with fail
      go_meet
      case rel =>
        first
        | (refine ⟨_, _, w0.heap.size + 1 + 1, rfl, rfl, WkI.start P0.out F0.out hwb ?_ ?_ ?_ ?_ ?_ ?_ ?_ ?_ ?_ ?_⟩ <;> first | omega | (simp [hp_alloc, hp_drew, hp_put, Array.getElem?_push, Array.getElem?_setIfInBounds, Array.getElem_push, Array.getElem_setIfInBounds, hn1, hn2, hn3, hn4, hn5, hn6, hn7]; done) | (simp [hp_alloc, hp_drew, hp_put, Array.getElem?_push, Array.getElem?_setIfInBounds, Array.getElem_push, Array.getElem_setIfInBounds, hn1, hn2, hn3, hn4, hn5, hn6, hn7] <;> first | omega | (intro hh; exfalso; omega)) | ((repeat' (first | exact Fr.refl _ _ | refine Fr.alloc ?_ _ | refine Fr.drew ?_ | refine Fr.putObj ?_ (by omega) _)); done))
        | (refine ⟨_, _, w0.heap.size + 1, rfl, rfl, WkI.start P0.out F0.out hwb ?_ ?_ ?_ ?_ ?_ ?_ ?_ ?_ ?_ ?_⟩ <;> first | omega | (simp [hp_alloc, hp_drew, hp_put, Array.getElem?_push, Array.getElem?_setIfInBounds, Array.getElem_push, Array.getElem_setIfInBounds, hn1, hn2, hn3, hn4, hn5, hn6, hn7]; done) | (simp [hp_alloc, hp_drew, hp_put, Array.getElem?_push, Array.getElem?_setIfInBounds, Array.getElem_push, Array.getElem_setIfInBounds, hn1, hn2, hn3, hn4, hn5, hn6, hn7] <;> first | omega | (intro hh; exfalso; omega)) | ((repeat' (first | exact Fr.refl _ _ | refine Fr.alloc ?_ _ | refine Fr.drew ?_ | refine Fr.putObj ?_ (by omega) _)); done))
        | (refine ⟨_, _, w0.heap.size, rfl, rfl, WkI.start P0.out F0.out hwb ?_ ?_ ?_ ?_ ?_ ?_ ?_ ?_ ?_ ?_⟩ <;> first | omega | (simp [hp_alloc, hp_drew, hp_put, Array.getElem?_push, Array.getElem?_setIfInBounds, Array.getElem_push, Array.getElem_setIfInBounds, hn1, hn2, hn3, hn4, hn5, hn6, hn7]; done) | (simp [hp_alloc, hp_drew, hp_put, Array.getElem?_push, Array.getElem?_setIfInBounds, Array.getElem_push, Array.getElem_setIfInBounds, hn1, hn2, hn3, hn4, hn5, hn6, hn7] <;> first | omega | (intro hh; exfalso; omega)) | ((repeat' (first | exact Fr.refl _ _ | refine Fr.alloc ?_ _ | refine Fr.drew ?_ | refine Fr.putObj ?_ (by omega) _)); done))
  case rest =>
    obtain ⟨bo0, bm, be, rfl, rfl, I0⟩ := hcut
    replace I0 := Lib.hid I0
    clear hmm hi1 hi2 hi3 hz hc0 hc1 hc2 l1 l2 l3 l4 l5 l6 l7 k0 hw0
    go_wp2_with fail
    go_loopg [2, 4] 40 (fun k v2 v4 wr => ∃ (i : Nat) (bo : Option Nat) (L : List (Int × List Int)) (M : List (Int × Value)), k + i = 40 ∧ v4 = .int .i64 i ∧ walkF T k i L = walkT T ∧ i ≤ L.length ∧ WOk T L ∧ WkI T w bt bm (.slice o T.rows.length cap) L wr v2 bo M)
    case atStart => exact ⟨0, _, _, _, rfl, rfl, rfl, by simp, WOk.start hV, I0.out⟩
    case round =>
      obtain ⟨i, bo, L, M, hk, rfl, hW, hi, hO, hI⟩ := hrel
      obtain ⟨wo, rfl⟩ : ∃ wo : World, wo = wr := ⟨_, rfl⟩
      obtain ⟨gq, rfl⟩ : ∃ g : Nat, g = gk := ⟨_, rfl⟩
      obtain ⟨oo, nL, co, rfl, hnL⟩ : ∃ oo n co, u2 = .slice oo n co ∧ n = L.length := by
        obtain ⟨oo, co, e⟩ := hI.ord.len
        exact ⟨oo, _, co, e, by simp⟩
      have hLe : L.length ≤ 30 := by have := hO.le; have := hst.out; omega
      replace hnL := Lib.hid hnL
      by_cases hlt : i < L.length
      · have hltI : (i : Int) < nL := by have := hnL.out; omega
        obtain ⟨⟨s0, word⟩, hLi⟩ : ∃ x, L[i] = x := ⟨_, rfl⟩
        have hs0 := hO.rng L[i] (List.getElem_mem hlt)
        have hwl := hO.len i hlt
        rw [hLi] at hs0 hwl
        dsimp only at hs0 hwl
        obtain ⟨s, rfl⟩ : ∃ s : Nat, s0 = s := ⟨s0.toNat, by omega⟩
        have hsr : s < T.rows.length := by have := hrl.out; omega
        have hsrI : (s : Int) < T.rows.length := by omega
        obtain ⟨B, off, u, rfl, hB, hcB, o2, cap2, rfl, hu⟩ := hl.out s hsr
        have cB := hI.fr.cell (p := ⟨B, off + s, none⟩) hB (by simp)
        rw [hcB] at cB
        obtain ⟨row, hrow⟩ : ∃ row, T.rows[s] = row := ⟨_, rfl⟩
        have hrl2 := hV.row _ (List.getElem_mem hsr)
        have hcells := hV.cell _ (List.getElem_mem hsr)
        have hev12 := hV.ev
        rw [hrow] at hu hrl2 hcells cB
        have hrow12 : row.length ≤ 12 := by omega
        have hW2 : walkF T (gq - 1) (i + 1) (wRow word 0 row L) = walkT T := by
          rw [← hW]
          obtain ⟨g', rfl⟩ : ∃ g', gq = g' + 1 := ⟨gq - 1, by omega⟩
          conv => rhs; unfold walkF
          rw [if_pos hlt]
          have e1 : L.getD i (0, []) = ((s : Int), word) := by rw [List.getD_eq_getElem?_getD, List.getElem?_eq_getElem hlt, hLi]; rfl
          have e2 : T.rows.getD ((s : Int)).toNat [] = row := by rw [List.getD_eq_getElem?_getD, show ((s : Int)).toNat = s by omega, List.getElem?_eq_getElem hsr, hrow]; rfl
          unfold wRound
          rw [e1]
          dsimp only
          rw [e2]; rfl
        obtain ⟨bO, oO, hoo, hbO, cO⟩ : ∃ bO oO, oo = some ⟨bO, oO, none⟩ ∧ bo = some bO ∧ wo.cell? ⟨bO, oO + i, none⟩ = some (.int .i64 (s : Int)) := by
          rcases hI.ord with ⟨_, h2, _, _⟩ | ⟨b, off, cap, hb, e, h3, h4, _, _, h7⟩
          · simp at h2; subst h2; simp at hlt
          · cases e
            refine ⟨b, off, rfl, hb, ?_⟩
            rw [h7 i (by simpa using hlt)]
            simp [ints, hLi, hlt]
        subst hoo
        have kt := hI.pt.cell
        replace hu := Lib.hid hu; replace hrl2 := Lib.hid hrl2; replace hcells := Lib.hid hcells; replace hW2 := Lib.hid hW2; replace hW := Lib.hid hW; replace hO := Lib.hid hO; replace hI := Lib.hid hI; replace hrow := Lib.hid hrow; replace hLi := Lib.hid hLi; replace hcB := Lib.hid hcB; replace hbO := Lib.hid hbO; replace hLe := Lib.hid hLe
        go_wp2_with fail
        go_quiet (fail)
        go_wp2_with fail
        clear kt cO cB
        go_loopg [2, 32] (row.length + 1) (fun k v2 v32 wr => ∃ (j : Nat) (bo : Option Nat) (L2 : List (Int × List Int)) (M : List (Int × Value)), j ≤ row.length ∧ k + j = row.length + 1 ∧ v32 = .int .i64 j ∧ wRow word 0 (row.take j) L = L2 ∧ L.length ≤ L2.length ∧ L2[i]? = some ((s : Int), word) ∧ WOk T L2 ∧ WkI T w bt bm (.slice (some ⟨B, off, none⟩) T.rows.length cap) L2 wr v2 bo M)
        case atStart => exact ⟨0, _, _, _, by omega, by omega, rfl, rfl, Nat.le_refl _, by show L[i]? = _; rw [List.getElem?_eq_getElem hlt, hLi.out], hO.out, hI.out.frz ((Fr.refl _ _).drewN _)⟩
        case round =>
          obtain ⟨j, bo2, L2, M2, hj, hk3, rfl, hWj, hL2, hLi2, hO2, hI2⟩ := hrel
          by_cases hltj : j < row.length
          · have hltJ : (j : Int) < row.length := by omega
            obtain ⟨B2, off2, rfl, hB2, ha, hb⟩ := hu.out j hltj
            have hce := hcells.out _ (List.getElem_mem hltj)
            have hsn := wRow_take word L row j hltj
            rw [hWj] at hsn
            obtain ⟨⟨x1, x2⟩, hx⟩ : ∃ x, row[j] = x := ⟨_, rfl⟩
            rw [hx] at ha hb hce hsn
            dsimp only at ha hb hce
            have ca := hI2.fr.cell (p := ⟨B2, off2 + j * 2, none⟩) hB2 (by simp)
            rw [ha] at ca
            have cb := hI2.fr.cell (p := ⟨B2, off2 + j * 2 + 1, none⟩) hB2 (by simp)
            rw [hb] at cb
            obtain ⟨w4, hw4⟩ : ∃ x, wr.alloc (.cells #[.int .i64 x1, .int .i64 x2] TRow) = x := ⟨_, rfl⟩
            have P4 := Pt.newA wr TRow #[.int .i64 x1, .int .i64 x2]
            rw [hw4] at P4
            have F4 : Fr [] wr w4 := by rw [← hw4]; exact (Fr.refl [] wr).alloc _
            have hbxw : wr.heap.size < w4.heap.size := P4.lt
            have hI4 := hI2.frz F4
            obtain ⟨bx, hbx⟩ : ∃ x, wr.heap.size = x := ⟨_, rfl⟩
            have lM2 : bm < wr.heap.size := hI2.mp.lt
            rw [hbx] at P4 hbxw lM2
            have k4 := P4.cell
            obtain ⟨hc1, hc2, hc3, hc4, hc5⟩ := hce
            have LO := hI4.mp.lookOk (P := Try.prog) (t := 60) uMapI uInt isKey_intK intK_inj (uMapI_zero _) x1
            rw [kget_isSome, hI4.keys] at LO
            obtain ⟨lv, hlv⟩ : ∃ v, (kget M2 x1).getD (Value.slice none 0 0) = v := ⟨_, rfl⟩
            rw [hlv] at LO
            simp only [intK] at LO
            clear ha hb hI2
            replace hlv := Lib.hid hlv; replace hx := Lib.hid hx; replace hWj := Lib.hid hWj; replace hc5 := Lib.hid hc5; replace P4 := Lib.hid P4; replace F4 := Lib.hid F4; replace hI4 := Lib.hid hI4; replace hLi2 := Lib.hid hLi2
            by_cases hneg : x1 < 0
            · have hst2 : wRow word 0 (row.take (j + 1)) L = L2 := by
                rw [hsn]; unfold wStep; rw [if_neg (by dsimp only; omega)]
              have hge : ¬ 0 ≤ x1 := by omega
              replace hst2 := Lib.hid hst2; replace hO2 := Lib.hid hO2
              clear hsn
              go_wp2_with fail
              go_roundg (gk - 1)
              case measure => omega
              case rel => exact ⟨j + 1, _, _, _, by omega, by omega, by go_num, hst2.out, by omega, hLi2.out, hO2.out, hI4.out⟩
            · have hge : 0 ≤ x1 := by omega
              by_cases hin : x1 ∈ L2.map (·.1)
              · have hst2 : wRow word 0 (row.take (j + 1)) L = L2 := by
                  rw [hsn]; unfold wStep; rw [any_keys]; rw [if_neg (by simp only [decide_eq_true hin, not_true_eq_false, and_false, not_false_eq_true])]
                rw [decide_eq_true hin] at LO
                replace hst2 := Lib.hid hst2; replace hO2 := Lib.hid hO2; replace hin := Lib.hid hin
                clear hsn
                go_wp2_with fail
                go_roundg (gk - 1)
                case measure => omega
                case rel => exact ⟨j + 1, _, _, _, by omega, by omega, by go_num, hst2.out, by omega, hLi2.out, hO2.out, hI4.out⟩
              · rw [decide_eq_false hin] at LO
                have hst2 : wRow word 0 (row.take (j + 1)) L = L2 ++ [(x1, word ++ [(j : Int)])] := by
                  rw [hsn]; unfold wStep; rw [any_keys]; rw [if_pos (by simp only [decide_eq_false hin]; exact ⟨hge, by simp⟩)]
                have hO3 := hO2.step x1 (word ++ [(j : Int)]) hge hc2 (by rw [any_keys, decide_eq_false hin]; simp) (by rw [List.length_append, List.length_singleton]; omega)
                have hL3 : (L2 ++ [(x1, word ++ [(j : Int)])])[i]? = some ((s : Int), word) := by
                  rw [List.getElem?_append_left (by omega)]; exact hLi2.out
                have hL4 : L.length ≤ (L2 ++ [(x1, word ++ [(j : Int)])]).length := by rw [List.length_append]; omega
                have hword : word.length < 1000000 := by omega
                obtain ⟨vw, hvw, hvn⟩ := hI4.out.get hO2 i s word hLi2.out
                obtain ⟨oo, n2, co2, rfl, hn2⟩ : ∃ oo n co, u2 = .slice oo n co ∧ n = L2.length := by
                  obtain ⟨oo, co, e⟩ := hI4.out.ord.len
                  exact ⟨oo, _, co, e, by simp⟩
                have hiI : (i : Int) < (n2 : Int) := by omega
                obtain ⟨bO, oO, hoo, hbO, cO⟩ : ∃ bO oO, oo = some ⟨bO, oO, none⟩ ∧ bo2 = some bO ∧ w4.cell? ⟨bO, oO + i, none⟩ = some (.int .i64 (s : Int)) := by
                  obtain ⟨q1, q2⟩ := List.getElem?_eq_some_iff.1 hLi2.out
                  rcases hI4.out.ord with ⟨_, h2, _, _⟩ | ⟨b, off, cap, hb, e, h3, h4, _, _, h7⟩
                  · simp at h2; subst h2; simp at q1
                  · cases e
                    refine ⟨b, off, rfl, hb, ?_⟩
                    rw [h7 i (by simpa using q1)]
                    simp [ints, q1, q2]
                subst hoo
                subst hbO
                have lO : bO < w4.heap.size := hI4.out.ord.lt
                have oO' := hI4.out.out bO rfl
                have lM := hI4.out.mp.lt
                have CL : ∀ W, Fr [] w4 W → Calls Try.prog 26 #[vw] W fun e w' => ∃ v' b', e = .returned v' ∧ Row 1 w' v' word.length (ints word) b' ∧ (∀ z, b' = some z → w4.heap.size ≤ z) ∧ Fr [] w4 w' ∧ Fr [] W w' := fun W f =>
                  (clone_any vw word W (hvn.nin.fr f) hword).mono (fun e w' h => by
                    obtain ⟨v', b', h1, h2, h3, h4⟩ := h
                    exact ⟨v', b', h1, h2, fun z hz => by have := h3 z hz; have := f.size; omega, f.trans h4, h4⟩)
                have KA : ∀ W, Fr [] w4 W → W.cell? ⟨bx, 0, none⟩ = some (.int .i64 x1) ∧ W.cell? ⟨bO, oO + i, none⟩ = some (.int .i64 (s : Int)) ∧ (Instr.lookup 60 (.map (some bm)) (.int .i64 (s : Int)) false).run Try.prog W = .ok vw W := fun W f => by
                  refine ⟨(f.pt P4.out (by simp)).cell 0, ?_, ?_⟩
                  · rw [f.cell (p := ⟨bO, oO + i, none⟩) lO (by simp)]; exact cO
                  · have := (hI4.out.mp.fr f (by simp)).look (P := Try.prog) (t := 60) uMapI uInt isKey_intK intK_inj (uMapI_zero _) (s : Int)
                    rw [hvw] at this
                    exact this
                have PUT := fun (W : World) (v2 : Value) (b2 : Option Nat) (bs : Nat) (f : Fr [] w4 W) hr hb hp => hI4.out.put hin word hword W v2 b2 bs (j : Int) f hr hb hp
                have KZ : ∀ w5 w6 v5, Fr [] w4 w5 → MapK intK w6 bm (M2 ++ [(x1, v5)]) → Fr [bm] w5 w6 → w6.cell? ⟨bx, 0, none⟩ = some (.int .i64 x1) ∧ w6.cell? ⟨bO, oO + i, none⟩ = some (.int .i64 (s : Int)) ∧ (Instr.lookup 60 (.map (some bm)) (.int .i64 (s : Int)) false).run Try.prog w6 = .ok vw w6 := fun w5 w6 v5 F5 M6 f6 => by
                  obtain ⟨q1, q2, _⟩ := KA w5 F5
                  refine ⟨?_, ?_, ?_⟩
                  · rw [f6.cell (p := ⟨bx, 0, none⟩) (Nat.lt_of_lt_of_le hbxw F5.size) (by simp; omega)]; exact q1
                  · rw [f6.cell (p := ⟨bO, oO + i, none⟩) (Nat.lt_of_lt_of_le lO F5.size) (by simp; omega)]; exact q2
                  · have := M6.look (P := Try.prog) (t := 60) uMapI uInt isKey_intK intK_inj (uMapI_zero _) (s : Int)
                    rw [kget_app _ _ _ _ hvw] at this
                    exact this
                obtain ⟨SS, hSS⟩ : ∃ S : World → Prop, S = fun w' => w'.cell? ⟨bx, 0, none⟩ = some (.int .i64 x1) ∧ w'.cell? ⟨bO, oO + i, none⟩ = some (.int .i64 (s : Int)) ∧ (Instr.lookup 60 (.map (some bm)) (.int .i64 (s : Int)) false).run Try.prog w' = .ok vw w' := ⟨_, rfl⟩
                replace CL := Lib.hid CL; replace KA := Lib.hid KA; replace PUT := Lib.hid PUT; replace KZ := Lib.hid KZ; replace hst2 := Lib.hid hst2; replace hO2 := Lib.hid hO2; replace hO3 := Lib.hid hO3; replace hL3 := Lib.hid hL3; replace hL4 := Lib.hid hL4; replace hin := Lib.hid hin; replace hvw := Lib.hid hvw; replace hvn := Lib.hid hvn; replace hword := Lib.hid hword
                replace hn2 := Lib.hid hn2
                clear hsn cO hSS SS
                have h0i : (0 : Int) ≤ (i : Int) := by omega
                have h1i : (i : Int) ≤ (n2 : Int) := by omega
                go_upto_region 10 with fail
                go_region_held3 (fun w' => w'.cell? ⟨bx, 0, none⟩ = some (.int .i64 x1) ∧ w'.cell? ⟨bO, oO + i, none⟩ = some (.int .i64 (s : Int)) ∧ (Instr.lookup 60 (.map (some bm)) (.int .i64 (s : Int)) false).run Try.prog w' = .ok vw w')
                  (first | exact KA.out _ ((Fr.refl _ _).drew) | exact KZ1.out | exact KA.out _ F5.out | exact KA.out _ F2.out | exact KA.out _ (F2.out.alloc _) | exact KA.out _ (((Fr.refl _ _).alloc _).drew) | exact KA.out _ (((Fr.refl _ _).drew).alloc _))
                  ((first
                    | (obtain ⟨v5, w5, w6, b5, happ, UP, F5, hr5, hb5, M6, f6⟩ := PUT.out _ v2 b2 _ (F2.out.alloc _) (hR2.out.fr ((Fr.refl [] w2).alloc _) (by simp)) hb2.out (Pt.newA w2 3 #[.int .i64 (j : Int)])
                       have KZ1 := Lib.hid (KZ.out _ _ _ F5 M6 f6)
                       replace F5 := Lib.hid F5; replace hr5 := Lib.hid hr5; replace hb5 := Lib.hid hb5; replace M6 := Lib.hid M6; replace f6 := Lib.hid f6
                       refine step_append_run rfl _ _ _ rfl (v := v2) rfl (xv := .slice (some ⟨w2.heap.size, 0, none⟩) 1 1) rfl happ ?_
                       clear happ)
                    | (obtain ⟨v5, w5, w6, b5, happ, UP, F5, hr5, hb5, M6, f6⟩ := PUT.out _ v2 b2 _ F2.out hR2.out hb2.out (f2.out.pt (Pt.newA w4 3 #[.int .i64 (j : Int)]).drew (by simp))
                       have KZ1 := Lib.hid (KZ.out _ _ _ F5 M6 f6)
                       replace F5 := Lib.hid F5; replace hr5 := Lib.hid hr5; replace hb5 := Lib.hid hb5; replace M6 := Lib.hid M6; replace f6 := Lib.hid f6
                       refine step_append_run rfl _ _ _ rfl (v := v2) rfl (xv := .slice (some ⟨w4.heap.size, 0, none⟩) 1 1) rfl happ ?_
                       clear happ)
                    | (go_at_call 26
                       refine (CL.out _ (by first | exact (Fr.refl _ _).drew | exact ((Fr.refl _ _).alloc _).drew | exact ((Fr.refl _ _).drew).alloc _)).mono ?_
                       rintro e w2 ⟨v2, b2, rfl, hR2, hb2, F2, f2⟩
                       replace hR2 := Lib.hid hR2; replace hb2 := Lib.hid hb2; replace F2 := Lib.hid F2; replace f2 := Lib.hid f2)))
                all_goals
                  have ord6 := (hI4.out.ord.fr F5.out (by simp)).fr f6.out (fun z hz => by cases hz; simp; omega)
                  obtain ⟨ov', w10, bo', happ2, hr10, hb10, f10⟩ := ord6.one (by have h9 := hO2.out.le; have h8 := hst.out; rw [List.length_map]; omega) x1
                  have NX := Lib.hid (hI4.out.step (word := word ++ [(j : Int)]) F5.out hr5.out hb5.out M6.out f6.out hr10 hb10 f10)
                  have c6 := KZ1.out.1
                  replace happ2 := Lib.hid happ2
                  clear hr10 hb10 f10 ord6 UP
                  go_wp2_with (first | (at_builtin; refine wpList_append_run _ rfl _ _ _ rfl rfl rfl happ2.out ?_))
                  go_roundg (gk - 1)
                  case measure => omega
                  case rel => exact ⟨j + 1, _, _, _, by omega, by omega, by go_num, hst2.out, by have := hL4.out; simp at this ⊢; omega, hL3.out, hO3.out, NX.out⟩
          · have hltJ : ¬ (j : Int) < row.length := by omega
            rw [List.take_of_length_le (by omega)] at hWj
            replace hI2 := Lib.hid hI2; replace hO2 := Lib.hid hO2; replace hWj := Lib.hid hWj; replace hLi2 := Lib.hid hLi2
            go_wp2_with fail
            go_roundg (gq - 1)
            case measure => have := hLe.out; omega
            case rel => exact ⟨i + 1, _, _, _, by have := hLe.out; omega, by go_num, by have h := hW2.out; rw [hWj.out] at h; exact h, by omega, hO2.out, hI2.out⟩
      · have hltI : ¬ (i : Int) < nL := by have := hnL.out; omega
        have hWe : L = walkT T := by rw [← hW, walkF_more T gq i L (by omega)]
        replace hI := Lib.hid hI; replace hO := Lib.hid hO; replace hWe := Lib.hid hWe; replace hW := Lib.hid hW
        go_wp2_with fail
        go_ret2
        exact ⟨_, _, _, _, rfl, ⟨_, _, hWe.out ▸ hI.out⟩, hWe.out ▸ hO.out⟩
end Go.Proofs.Ytkfkkglodjehpaa
