import Derived.Test.YtkfkkglodjehpaaSE1
namespace Go.Proofs.Ytkfkkglodjehpaa
open Go.RowKit
set_option linter.unusedVariables false
set_option linter.unusedSimpArgs false
set_option maxHeartbeats 16000000
set_option maxRecDepth 100000
theorem sesR_len : sesR.length = 7 := rfl
theorem sesR_row : ∀ (i : Nat) (h : i < sesR.length), sesR[i].length = 12
  | 0, _ | 1, _ | 2, _ | 3, _ | 4, _ | 5, _ | 6, _ => rfl
theorem rowv_get (i j : Nat) (h : i < sesR.length) (hj : j < sesR[i].length) : rowv i j = sesR[i][j] := by
  unfold rowv
  rw [List.getD_eq_getElem?_getD, List.getD_eq_getElem?_getD, List.getElem?_eq_getElem h]
  simp only [Option.getD_some]
  rw [List.getElem?_eq_getElem hj]; rfl
def SeR (w : World) (e : Ending) (w' : World) : Prop := ∃ rv, e = .returned (.agg #[.int .i64 7, .int .i64 12, .int .i64 0, rv]) ∧ RInB (fun b => w.heap.size ≤ b) w' rv sesR ∧ Fr [] w w'
theorem rTable_any (w : World) : Calls Try.prog 5 #[] w (SeR w) := by
  have RW := fun W s e h1 h2 => rrow_any W s e h1 h2
  have hsl := sesR_len
  have hsr := fun i h => sesR_row i h
  have hrv := fun i j h hj => rowv_get i j h hj
  obtain ⟨RR, hRR⟩ : ∃ y, sesR = y := ⟨_, rfl⟩
  simp only [hRR] at hsr hrv
  rw [hRR] at hsl
  obtain ⟨w0, hw0⟩ : ∃ x, w.alloc (.cells #[.int .i64 0, .int .i64 0, .int .i64 0, .slice none 0 0] RTab) = x := ⟨_, rfl⟩
  have P0 := Pt.newA w RTab #[.int .i64 0, .int .i64 0, .int .i64 0, .slice none 0 0]
  rw [hw0] at P0
  have F0 : Fr [] w w0 := by rw [← hw0]; exact (Fr.refl [] w).alloc _
  obtain ⟨b0, hb0⟩ : ∃ x, w.heap.size = x := ⟨_, rfl⟩
  rw [hb0] at P0
  obtain ⟨w1, hw1⟩ : ∃ x, w0.alloc (.cells #[.int .i64 7, .int .i64 12, .int .i64 0, .slice none 0 0] RTab) = x := ⟨_, rfl⟩
  have P1 := Pt.newA w0 RTab #[.int .i64 7, .int .i64 12, .int .i64 0, .slice none 0 0]
  rw [hw1] at P1
  have F1 : Fr [] w0 w1 := by rw [← hw1]; exact (Fr.refl [] w0).alloc _
  obtain ⟨b1, hb1⟩ : ∃ x, w0.heap.size = x := ⟨_, rfl⟩
  rw [hb1] at P1
  have l0 := P0.lt
  have lt01 : b0 < b1 := by omega
  have wb0 : w.heap.size ≤ b0 := by omega
  have s1e : w1.heap.size ≤ b1 + 1 := by rw [← hw1, World.size_alloc]; omega
  have l1 := P1.lt
  have Q0 := F1.pt P0 (by simp)
  have FA := F0.trans F1
  replace P0 := Lib.hid P0; replace P1 := Lib.hid P1; replace F0 := Lib.hid F0; replace F1 := Lib.hid F1; replace Q0 := Lib.hid Q0; replace FA := Lib.hid FA; replace hw1 := Lib.hid hw1; replace hsl := Lib.hid hsl; replace hsr := Lib.hid hsr; replace hrv := Lib.hid hrv; replace RW := Lib.hid RW; replace hRR := Lib.hid hRR
  go_enter Try.func5, Try.ntmps5
  go_wp2_with fail
  rw [hw1.out]
  clear hw0 hb0 hb1
  go_loopg [2] 8 (fun k v2 wr => ∃ (i : Nat) (rv : Value) (us : List Value) (bo : Option Nat) (bs : Nat → Option Nat), i ≤ 7 ∧ k + i = 8 ∧ v2 = .int .i64 i ∧ ORows (fun b => b1 < b) wr rv (RR.take i) us bo bs ∧ Pt wr b1 RTab [.int .i64 7, .int .i64 12, .int .i64 0, rv] ∧ Fr [b1] w1 wr)
  case atStart => exact ⟨0, _, [], none, fun _ => none, by omega, by omega, rfl, ORows.nil _ _ _, P1.out, Fr.refl _ _⟩
  case round =>
    obtain ⟨i, rv, us, bo, bs, hi, hk, rfl, hO, h1, hF⟩ := hrel
    obtain ⟨wi, rfl⟩ : ∃ x : World, x = wr := ⟨_, rfl⟩
    obtain ⟨gi, rfl⟩ : ∃ g : Nat, g = gk := ⟨_, rfl⟩
    have q0 := hF.pt Q0.out (by simp; omega)
    have szi := hF.size
    by_cases hlt : i < 7
    · have hltI : (i : Int) ≤ 6 := by omega
      have hir : i < RR.length := by rw [hsl.out]; exact hlt
      obtain ⟨row, hrow⟩ : ∃ r, RR[i] = r := ⟨_, rfl⟩
      have hr12 : row.length = 12 := by rw [← hrow]; exact hsr.out i hir
      have htk : RR.take (i + 1) = RR.take i ++ [row] := by rw [List.take_succ_eq_append_getElem hir, hrow]
      replace hO := Lib.hid hO; replace h1 := Lib.hid h1; replace hF := Lib.hid hF; replace q0 := Lib.hid q0; replace hrow := Lib.hid hrow; replace htk := Lib.hid htk; replace hr12 := Lib.hid hr12
      go_wp2_with fail
      go_loopg [3, 4] 13 (fun k v3 v4 wr => ∃ (j : Nat) (bo2 : Option Nat), j ≤ 12 ∧ k + j = 13 ∧ v4 = .int .i64 j ∧ Row 2 wr v3 (row.take j).length (pcells (row.take j)) bo2 ∧ (∀ z, bo2 = some z → wi.heap.size ≤ z) ∧ Fr [] wi wr)
      case atStart => exact ⟨0, none, by omega, by omega, rfl, Row.nil 2 _ none, by simp, Fr.refl _ _⟩
      case round =>
        obtain ⟨j, bo2, hj, hk2, rfl, hr, hbo2, hG⟩ := hrel
        by_cases hjl : j < 12
        · as_aux_lemma =>
          have hjlI : (j : Int) < 12 := by omega
          have hjr : j < row.length := by rw [hr12.out]; exact hjl
          have hv := hrv.out i j hir (by rw [hrow.out]; exact hjr)
          have htj : row.take (j + 1) = row.take j ++ [rowv i j] := by rw [List.take_succ_eq_append_getElem hjr]; congr 2; rw [hv]; simp only [hrow.out]
          have hlj : (row.take j).length = j := by rw [List.length_take]; omega
          have RC := RW.out wr i j hlt hjl
          have hr' := hr
          obtain ⟨o3, c3, hv3⟩ := hr.len
          subst hv3
          rw [hlj]
          replace hr := Lib.hid hr; replace hbo2 := Lib.hid hbo2; replace hG := Lib.hid hG; replace hv := Lib.hid hv; replace htj := Lib.hid htj; replace hlj := Lib.hid hlj; replace RC := Lib.hid RC; replace hr' := Lib.hid hr'
          go_wp2_with fail
          refine RC.out.mono ?_
          rintro e w4 ⟨rfl, f4⟩
          obtain ⟨v5, w5, bo5, happ, hr5, hb5, f5⟩ := (hr'.out.fr f4 (by simp)).oneRR (by rw [hlj.out]; omega) (rowv i j)
          rw [← htj.out] at hr5
          rw [hlj.out] at happ
          have s4 := f4.size
          have s0 := hG.out.size
          have hb5' : ∀ z, bo5 = some z → wi.heap.size ≤ z := fun z hz => by
            rcases hb5 with e | ⟨z', e, h2⟩
            · exact hbo2.out z (by rw [← e]; exact hz)
            · rw [hz] at e; cases e; omega
          have G5 := (hG.out.trans f4).step f5 (fun z hz => .inr (hbo2.out z (by simpa using hz)))
          replace happ := Lib.hid happ; replace hr5 := Lib.hid hr5; replace hb5 := Lib.hid hb5; replace hb5' := Lib.hid hb5'; replace f5 := Lib.hid f5; replace f4 := Lib.hid f4; replace G5 := Lib.hid G5
          go_wp2_with (first | (at_builtin; refine wpList_append_run _ rfl _ _ _ rfl rfl rfl happ.out ?_))
          go_roundg (gk - 1)
          case measure => omega
          case rel => exact ⟨j + 1, _, by omega, by omega, by go_num, hr5.out, hb5'.out, G5.out⟩
        · as_aux_lemma =>
          have hjlI : ¬ (j : Int) < 12 := by omega
          have hjr : row.take j = row := List.take_of_length_le (by rw [hr12.out]; omega)
          rw [hjr] at hr
          obtain ⟨o3, c3, hv3⟩ := hr.len
          subst hv3
          obtain ⟨v6, w6, b6, happ, hr6, hb6, f6⟩ := (hO.out.row.fr hG (by simp)).oneRRs (by have := hO.out.len; rw [List.length_take] at this; omega) (.slice o3 row.length c3) rfl
          obtain ⟨bs', hN⟩ := hO.out.add hG hr hbo2 (fun z hz => by omega) hr6 hb6 f6
          rw [← htk.out] at hN
          obtain ⟨o6, c6, hv6⟩ := hr6.len
          obtain ⟨n6, hn6⟩ : ∃ y, (us ++ [Value.slice o3 row.length c3]).length = y := ⟨_, rfl⟩
          rw [hn6] at hv6
          subst hv6
          obtain ⟨o2, c2, hv2⟩ := hO.out.row.len
          obtain ⟨n2, hn2⟩ : ∃ y, us.length = y := ⟨_, rfl⟩
          rw [hn2] at hv2
          subst hv2
          have hb1bo : b1 ∉ bo.toList := fun hm => by have := hO.out.qo b1 (by simpa using hm); omega
          have a5 := hG.pt h1.out (by simp)
          have k5 := a5.cell
          have a6 := f6.pt a5 hb1bo
          have k6 := a6.cell
          have z6 := a6.free
          have a7 := a6.set 3 (.slice o6 n6 c6)
          have f7 : Fr [b1] w6 (w6.setCell ⟨b1, 3, none⟩ (.slice o6 n6 c6)) := (Fr.refl _ _).setCell (by simp) _
          obtain ⟨w7, hw7⟩ : ∃ y, w6.setCell ⟨b1, 3, none⟩ (.slice o6 n6 c6) = y := ⟨_, rfl⟩
          rw [hw7] at a7 f7
          simp only [List.set_cons_zero, List.set_cons_succ] at a7
          have hN7 := hN.fr f7 (fun z hz => by simp at hz; omega)
          have F7 : Fr [b1] w1 w7 := ((hF.out.trans (hG.mono (by simp))).step f6 (fun z hz => .inr (by have := hO.out.qo z (by simpa using hz); omega))).trans f7
          replace hr := Lib.hid hr; replace hbo2 := Lib.hid hbo2; replace hG := Lib.hid hG; replace happ := Lib.hid happ; replace hr6 := Lib.hid hr6; replace hb6 := Lib.hid hb6; replace f6 := Lib.hid f6; replace hN := Lib.hid hN; replace hn6 := Lib.hid hn6; replace hn2 := Lib.hid hn2; replace a5 := Lib.hid a5; replace a6 := Lib.hid a6; replace a7 := Lib.hid a7; replace f7 := Lib.hid f7; replace hN7 := Lib.hid hN7; replace F7 := Lib.hid F7; replace hb1bo := Lib.hid hb1bo
          go_wp2_with (first | (at_builtin; refine wpList_append_run _ rfl _ _ _ rfl rfl rfl happ.out ?_))
          go_roundg (gi - 1)
          case measure => omega
          case rel => exact ⟨i + 1, _, _, _, _, by omega, by omega, by go_num, hN7.out, a7.out, F7.out⟩
    · as_aux_lemma =>
      have hltI : ¬ (i : Int) ≤ 6 := by omega
      obtain rfl : i = 7 := by omega
      have hall : RR.take 7 = RR := List.take_of_length_le (by rw [hsl.out]; omega)
      rw [hall] at hO
      obtain ⟨o3, n3, c3, hv3⟩ := hO.rinb.shape
      subst hv3
      have k1 := h1.cell
      have c0 := q0.cell
      have z0 := q0.free
      have p7 := (((q0.set 0 (.int .i64 7)).set 1 (.int .i64 12)).set 2 (.int .i64 0)).set 3 (.slice o3 n3 c3)
      have f7 : Fr [b0] wi ((((wi.setCell ⟨b0, 0, none⟩ (.int .i64 7)).setCell ⟨b0, 1, none⟩ (.int .i64 12)).setCell ⟨b0, 2, none⟩ (.int .i64 0)).setCell ⟨b0, 3, none⟩ (.slice o3 n3 c3)) := ((((Fr.refl _ wi).setCell (by simp) _).setCell (by simp) _).setCell (by simp) _).setCell (by simp) _
      obtain ⟨w7, hw7⟩ : ∃ x, (((wi.setCell ⟨b0, 0, none⟩ (.int .i64 7)).setCell ⟨b0, 1, none⟩ (.int .i64 12)).setCell ⟨b0, 2, none⟩ (.int .i64 0)).setCell ⟨b0, 3, none⟩ (.slice o3 n3 c3) = x := ⟨_, rfl⟩
      rw [hw7] at p7 f7
      simp only [List.set_cons_zero, List.set_cons_succ] at p7
      have k7 := p7.cell
      have F7 : Fr [] w w7 := (FA.out.step hF (fun z hz => .inr (by simp at hz; omega))).step f7 (fun q hq => .inr (by simp at hq; omega))
      have GO : SeR w (.returned (.agg #[.int .i64 7, .int .i64 12, .int .i64 0, .slice o3 n3 c3])) w7 := ⟨_, rfl, by rw [hRR.out]; exact hO.rinb.fr f7 (fun b _ hq => ⟨by simp; omega, by omega⟩), F7⟩
      replace hO := Lib.hid hO; replace h1 := Lib.hid h1; replace hF := Lib.hid hF; replace q0 := Lib.hid q0; replace hall := Lib.hid hall; replace p7 := Lib.hid p7; replace f7 := Lib.hid f7; replace F7 := Lib.hid F7; replace GO := Lib.hid GO
      go_wp2_with fail
      refine bodyPost_ret (v := .agg #[.int .i64 7, .int .i64 12, .int .i64 0, .slice o3 n3 c3]) (by simp [results, Try.results5, go_sem, k7]) rfl GO.out
end Go.Proofs.Ytkfkkglodjehpaa
