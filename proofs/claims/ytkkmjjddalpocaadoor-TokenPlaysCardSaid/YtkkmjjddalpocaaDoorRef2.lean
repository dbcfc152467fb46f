import Derived.Test.YtkkmjjddalpocaaDoorRef1
namespace Go.Proofs.YtkkmjjddalpocaaDoor
open Go.RowKit
set_option linter.unusedVariables false
set_option linter.unusedSimpArgs false
set_option maxHeartbeats 2000000
def RS.val (s : RS) : Value := .agg #[.bool s.made, .int .i64 s.h0, .int .i64 s.h1, .int .i64 s.h2, .int .i64 s.h3, .int .i64 s.a0, .int .i64 s.a1, .int .i64 s.a2, .int .i64 s.a3]
def RS.zero : RS := ⟨false, 0, 0, 0, 0, 0, 0, 0, 0⟩
def hOf (m t : Int) (j : Nat) : Int := if inB t j then 2 else if inB m j then 1 else 0
def fillR (m t : Int) : RS := ⟨true, hOf m t 0, hOf m t 1, hOf m t 2, hOf m t 3, -1, -1, -1, -1⟩
def fillT (m t : Int) (k : Nat) : RS := ⟨true, if 0 < k then hOf m t 0 else 0, if 1 < k then hOf m t 1 else 0, if 2 < k then hOf m t 2 else 0, if 3 < k then hOf m t 3 else 0, -1, -1, -1, -1⟩
def rIn (m t : Int) : Bool := decide (0 ≤ m) && decide (m ≤ 15) && decide (0 ≤ t) && decide (t ≤ 15)
def rApart (m t : Int) : Bool := !(inB m 0 && inB t 0) && !(inB m 1 && inB t 1) && !(inB m 2 && inB t 2) && !(inB m 3 && inB t 3)
def FillPost (m t : Int) (w : World) (e : Ending) (w' : World) : Prop := e = .returned (.tuple #[(if rIn m t && rApart m t then fillR m t else RS.zero).val, .bool (rIn m t && rApart m t)]) ∧ Fr [] w w'
def apartTo (m t : Int) (k : Nat) : Prop := (0 < k → (inB m 0 && inB t 0) = false) ∧ (1 < k → (inB m 1 && inB t 1) = false) ∧ (2 < k → (inB m 2 && inB t 2) = false) ∧ (3 < k → (inB m 3 && inB t 3) = false)
theorem fillPost_no {m t : Int} {w w' : World} (h : (rIn m t && rApart m t) = false) (hf : Fr [] w w') : FillPost m t w (.returned (.tuple #[.agg #[.bool false, .int .i64 0, .int .i64 0, .int .i64 0, .int .i64 0, .int .i64 0, .int .i64 0, .int .i64 0, .int .i64 0], .bool false])) w' := by
  unfold FillPost; rw [h]; exact ⟨rfl, hf⟩
set_option maxRecDepth 100000 in
theorem filled_out (m t : Int) (w : World) (h : m < 0 ∨ 15 < m ∨ t < 0 ∨ 15 < t) :
    Calls Tryd.prog 30 #[.int .i64 m, .int .i64 t] w (FillPost m t w) := by
  have hR : (rIn m t && rApart m t) = false := by
    have : rIn m t = false := by
      unfold rIn
      rcases h with h | h | h | h
      · rw [decide_eq_false (show ¬ 0 ≤ m by omega)]; rfl
      · rw [decide_eq_false (show ¬ m ≤ 15 by omega)]; simp
      · rw [decide_eq_false (show ¬ 0 ≤ t by omega)]; simp
      · rw [decide_eq_false (show ¬ t ≤ 15 by omega)]; simp
    rw [this]; rfl
  have HR := Lib.hid hR
  clear hR
  have key : m < 0 ∨ (¬ m < 0 ∧ 15 < m) ∨ (¬ m < 0 ∧ ¬ 15 < m ∧ t < 0) ∨ (¬ m < 0 ∧ ¬ 15 < m ∧ ¬ t < 0 ∧ 15 < t) := by omega
  clear h
  rcases key with h | ⟨h, h'⟩ | ⟨h, h', h''⟩ | ⟨h, h', h'', h3⟩
  all_goals
    go_enter Tryd.func30, Tryd.ntmps30
    go_wp2
    refine bodyPost_ret (v := .tuple #[.agg #[.bool false, .int .i64 0, .int .i64 0, .int .i64 0, .int .i64 0, .int .i64 0, .int .i64 0, .int .i64 0, .int .i64 0], .bool false]) (by simp [results, Tryd.results30, go_sem]) rfl (fillPost_no HR.out (((Fr.refl _ _).alloc _).alloc _))
set_option maxRecDepth 100000 in
set_option maxHeartbeats 8000000 in
theorem filled_in (m t : Int) (w : World) (m0 : 0 ≤ m) (m1 : m ≤ 15) (t0 : 0 ≤ t) (t1 : t ≤ 15) :
    Calls Tryd.prog 30 #[.int .i64 m, .int .i64 t] w (FillPost m t w) := by
  have hRI : rIn m t = true := by unfold rIn; rw [decide_eq_true m0, decide_eq_true m1, decide_eq_true t0, decide_eq_true t1]; rfl
  have HRI := Lib.hid hRI
  clear hRI
  go_enter Tryd.func30, Tryd.ntmps30
  go_wp2
  have hq1 : Pt ((w.alloc (.cells #[.bool false, .int .i64 0, .int .i64 0, .int .i64 0, .int .i64 0, .int .i64 0, .int .i64 0, .int .i64 0, .int .i64 0] RSide)).alloc (.cells #[.bool true, .int .i64 0, .int .i64 0, .int .i64 0, .int .i64 0, .int .i64 (-1), .int .i64 (-1), .int .i64 (-1), .int .i64 (-1)] RSide)) w.heap.size RSide RS.zero.cells := (Pt.newA _ _ _).alloc _
  have hq2 : Pt ((w.alloc (.cells #[.bool false, .int .i64 0, .int .i64 0, .int .i64 0, .int .i64 0, .int .i64 0, .int .i64 0, .int .i64 0, .int .i64 0] RSide)).alloc (.cells #[.bool true, .int .i64 0, .int .i64 0, .int .i64 0, .int .i64 0, .int .i64 (-1), .int .i64 (-1), .int .i64 (-1), .int .i64 (-1)] RSide)) (w.heap.size + 1) RSide (fillT m t 0).cells := Pt.newAt _ _ _ (by simp)
  have H1 := Lib.hid hq1; have H2 := Lib.hid hq2
  clear hq1 hq2
  go_loopw [7] (fun i wr => ∃ k : Nat, k ≤ 4 ∧ i = .int .i64 k ∧ Pt wr w.heap.size RSide RS.zero.cells ∧ Pt wr (w.heap.size + 1) RSide (fillT m t k).cells ∧ Fr [] w wr ∧ Hid (apartTo m t k)) (fun i _ => 4 - (intOf i).toNat)
  case atStart => exact ⟨0, by omega, rfl, H1.out, H2.out, ((Fr.refl _ _).alloc _).alloc _, by unfold Hid apartTo; simp⟩
  case round =>
    obtain ⟨k, hk0, rfl, hp1, hp2, hf, HA⟩ := hrel
    have hk : k = 0 ∨ k = 1 ∨ k = 2 ∨ k = 3 ∨ k = 4 := by omega
    clear hk0 H1 H2
    have hc1 := hp1.cell
    have hz1 := hp1.free
    simp only [RS.cells, RS.zero] at hc1
    rcases hk with rfl | rfl | rfl | rfl | rfl
    · have HM := Lib.hid (in_any m 0 wr m0 m1 (by omega))
      have HT := Lib.hid (in_any t 0 wr t0 t1 (by omega))
      obtain ⟨q, hq⟩ : ∃ q, fillT m t 0 = q := ⟨_, rfl⟩
      rw [hq] at hp2
      have HP1 := Lib.hid hp1
      have HP2 := Lib.hid hp2
      have hc2 := hp2.cell
      have hz2 := hp2.free
      simp only [RS.cells] at hc2
      clear hp1 hp2
      rcases hm : inB m 0 with _ | _ <;> rcases ht : inB t 0 with _ | _
      · have HN : Hid (fillT m t 1 = q) := by rw [← hq]; unfold Hid; simp [fillT, hOf, hm, ht]
        have HA' : Hid (apartTo m t 1) := by have := HA.out; unfold Hid apartTo at *; simp_all
        rw [hm] at HM; rw [ht] at HT
        clear hq
        go_wp2_with fail
        refine HM.out.mono ?_
        rintro e w' ⟨rfl, rfl⟩
        go_wp2_with fail
        refine HM.out.mono ?_
        rintro e w' ⟨rfl, rfl⟩
        go_wp2_with fail
        refine HT.out.mono ?_
        rintro e w' ⟨rfl, rfl⟩
        go_wp2
        go_roundw
        case rel => exact ⟨1, by omega, rfl, HP1.out, by rw [HN.out]; exact HP2.out, hf, HA'⟩
        case measure => simp [intOf]
      · have HN : Hid (fillT m t 1 = { q with h0 := 2 }) := by rw [← hq]; unfold Hid; simp [fillT, hOf, hm, ht]
        have HA' : Hid (apartTo m t 1) := by have := HA.out; unfold Hid apartTo at *; simp_all
        rw [hm] at HM; rw [ht] at HT
        clear hq
        go_wp2_with fail
        refine HM.out.mono ?_
        rintro e w' ⟨rfl, rfl⟩
        go_wp2_with fail
        refine HM.out.mono ?_
        rintro e w' ⟨rfl, rfl⟩
        go_wp2_with fail
        refine HT.out.mono ?_
        rintro e w' ⟨rfl, rfl⟩
        go_wp2
        go_roundw
        case rel => exact ⟨1, by omega, rfl, HP1.out.ne (by simp) _, by rw [HN.out]; exact HP2.out.set' rfl, hf.setCell (by simp) _, HA'⟩
        case measure => simp [intOf]
      · have HN : Hid (fillT m t 1 = { q with h0 := 1 }) := by rw [← hq]; unfold Hid; simp [fillT, hOf, hm, ht]
        have HA' : Hid (apartTo m t 1) := by have := HA.out; unfold Hid apartTo at *; simp_all
        rw [hm] at HM; rw [ht] at HT
        clear hq
        have HT2 : Hid (Calls Tryd.prog 41 #[.int .i64 t, .int .i64 0] (wr.setCell ⟨w.heap.size + 1, 1, none⟩ (.int .i64 1)) fun e w' => e = .returned (.bool false) ∧ (wr.setCell ⟨w.heap.size + 1, 1, none⟩ (.int .i64 1)) = w') := by
          have := in_any t 0 (wr.setCell ⟨w.heap.size + 1, 1, none⟩ (.int .i64 1)) t0 t1 (by omega)
          rw [ht] at this
          exact this
        go_wp2_with fail
        refine HM.out.mono ?_
        rintro e w' ⟨rfl, rfl⟩
        go_wp2_with fail
        refine HT.out.mono ?_
        rintro e w' ⟨rfl, rfl⟩
        go_wp2_with fail
        refine HM.out.mono ?_
        rintro e w' ⟨rfl, rfl⟩
        go_wp2_with fail
        refine HT2.out.mono ?_
        rintro e w' ⟨rfl, rfl⟩
        go_wp2
        go_roundw
        case rel => exact ⟨1, by omega, rfl, HP1.out.ne (by simp) _, by rw [HN.out]; exact HP2.out.set' rfl, hf.setCell (by simp) _, HA'⟩
        case measure => simp [intOf]
      · have hR : (rIn m t && rApart m t) = false := by unfold rApart; rw [hm, ht]; simp
        have HR := Lib.hid hR
        rw [hm] at HM; rw [ht] at HT
        clear hq hR
        go_wp2_with fail
        refine HM.out.mono ?_
        rintro e w' ⟨rfl, rfl⟩
        go_wp2_with fail
        refine HT.out.mono ?_
        rintro e w' ⟨rfl, rfl⟩
        go_wp2
        exact bodyPost_ret (v := .tuple #[.agg #[.bool false, .int .i64 0, .int .i64 0, .int .i64 0, .int .i64 0, .int .i64 0, .int .i64 0, .int .i64 0, .int .i64 0], .bool false]) (by simp [results, Tryd.results30, go_sem, hc1]) rfl (fillPost_no HR.out (by (repeat (refine Fr.setCell ?_ (by simp) _)); exact hf))
    · have HM := Lib.hid (in_any m 1 wr m0 m1 (by omega))
      have HT := Lib.hid (in_any t 1 wr t0 t1 (by omega))
      obtain ⟨q, hq⟩ : ∃ q, fillT m t 1 = q := ⟨_, rfl⟩
      rw [hq] at hp2
      have HP1 := Lib.hid hp1
      have HP2 := Lib.hid hp2
      have hc2 := hp2.cell
      have hz2 := hp2.free
      simp only [RS.cells] at hc2
      clear hp1 hp2
      rcases hm : inB m 1 with _ | _ <;> rcases ht : inB t 1 with _ | _
      · have HN : Hid (fillT m t 2 = q) := by rw [← hq]; unfold Hid; simp [fillT, hOf, hm, ht]
        have HA' : Hid (apartTo m t 2) := by have := HA.out; unfold Hid apartTo at *; simp_all
        rw [hm] at HM; rw [ht] at HT
        clear hq
        go_wp2_with fail
        refine HM.out.mono ?_
        rintro e w' ⟨rfl, rfl⟩
        go_wp2_with fail
        refine HM.out.mono ?_
        rintro e w' ⟨rfl, rfl⟩
        go_wp2_with fail
        refine HT.out.mono ?_
        rintro e w' ⟨rfl, rfl⟩
        go_wp2
        go_roundw
        case rel => exact ⟨2, by omega, rfl, HP1.out, by rw [HN.out]; exact HP2.out, hf, HA'⟩
        case measure => simp [intOf]
      · have HN : Hid (fillT m t 2 = { q with h1 := 2 }) := by rw [← hq]; unfold Hid; simp [fillT, hOf, hm, ht]
        have HA' : Hid (apartTo m t 2) := by have := HA.out; unfold Hid apartTo at *; simp_all
        rw [hm] at HM; rw [ht] at HT
        clear hq
        go_wp2_with fail
        refine HM.out.mono ?_
        rintro e w' ⟨rfl, rfl⟩
        go_wp2_with fail
        refine HM.out.mono ?_
        rintro e w' ⟨rfl, rfl⟩
        go_wp2_with fail
        refine HT.out.mono ?_
        rintro e w' ⟨rfl, rfl⟩
        go_wp2
        go_roundw
        case rel => exact ⟨2, by omega, rfl, HP1.out.ne (by simp) _, by rw [HN.out]; exact HP2.out.set' rfl, hf.setCell (by simp) _, HA'⟩
        case measure => simp [intOf]
      · have HN : Hid (fillT m t 2 = { q with h1 := 1 }) := by rw [← hq]; unfold Hid; simp [fillT, hOf, hm, ht]
        have HA' : Hid (apartTo m t 2) := by have := HA.out; unfold Hid apartTo at *; simp_all
        rw [hm] at HM; rw [ht] at HT
        clear hq
        have HT2 : Hid (Calls Tryd.prog 41 #[.int .i64 t, .int .i64 1] (wr.setCell ⟨w.heap.size + 1, 2, none⟩ (.int .i64 1)) fun e w' => e = .returned (.bool false) ∧ (wr.setCell ⟨w.heap.size + 1, 2, none⟩ (.int .i64 1)) = w') := by
          have := in_any t 1 (wr.setCell ⟨w.heap.size + 1, 2, none⟩ (.int .i64 1)) t0 t1 (by omega)
          rw [ht] at this
          exact this
        go_wp2_with fail
        refine HM.out.mono ?_
        rintro e w' ⟨rfl, rfl⟩
        go_wp2_with fail
        refine HT.out.mono ?_
        rintro e w' ⟨rfl, rfl⟩
        go_wp2_with fail
        refine HM.out.mono ?_
        rintro e w' ⟨rfl, rfl⟩
        go_wp2_with fail
        refine HT2.out.mono ?_
        rintro e w' ⟨rfl, rfl⟩
        go_wp2
        go_roundw
        case rel => exact ⟨2, by omega, rfl, HP1.out.ne (by simp) _, by rw [HN.out]; exact HP2.out.set' rfl, hf.setCell (by simp) _, HA'⟩
        case measure => simp [intOf]
      · have hR : (rIn m t && rApart m t) = false := by unfold rApart; rw [hm, ht]; simp
        have HR := Lib.hid hR
        rw [hm] at HM; rw [ht] at HT
        clear hq hR
        go_wp2_with fail
        refine HM.out.mono ?_
        rintro e w' ⟨rfl, rfl⟩
        go_wp2_with fail
        refine HT.out.mono ?_
        rintro e w' ⟨rfl, rfl⟩
        go_wp2
        exact bodyPost_ret (v := .tuple #[.agg #[.bool false, .int .i64 0, .int .i64 0, .int .i64 0, .int .i64 0, .int .i64 0, .int .i64 0, .int .i64 0, .int .i64 0], .bool false]) (by simp [results, Tryd.results30, go_sem, hc1]) rfl (fillPost_no HR.out (by (repeat (refine Fr.setCell ?_ (by simp) _)); exact hf))
    · have HM := Lib.hid (in_any m 2 wr m0 m1 (by omega))
      have HT := Lib.hid (in_any t 2 wr t0 t1 (by omega))
      obtain ⟨q, hq⟩ : ∃ q, fillT m t 2 = q := ⟨_, rfl⟩
      rw [hq] at hp2
      have HP1 := Lib.hid hp1
      have HP2 := Lib.hid hp2
      have hc2 := hp2.cell
      have hz2 := hp2.free
      simp only [RS.cells] at hc2
      clear hp1 hp2
      rcases hm : inB m 2 with _ | _ <;> rcases ht : inB t 2 with _ | _
      · have HN : Hid (fillT m t 3 = q) := by rw [← hq]; unfold Hid; simp [fillT, hOf, hm, ht]
        have HA' : Hid (apartTo m t 3) := by have := HA.out; unfold Hid apartTo at *; simp_all
        rw [hm] at HM; rw [ht] at HT
        clear hq
        go_wp2_with fail
        refine HM.out.mono ?_
        rintro e w' ⟨rfl, rfl⟩
        go_wp2_with fail
        refine HM.out.mono ?_
        rintro e w' ⟨rfl, rfl⟩
        go_wp2_with fail
        refine HT.out.mono ?_
        rintro e w' ⟨rfl, rfl⟩
        go_wp2
        go_roundw
        case rel => exact ⟨3, by omega, rfl, HP1.out, by rw [HN.out]; exact HP2.out, hf, HA'⟩
        case measure => simp [intOf]
      · have HN : Hid (fillT m t 3 = { q with h2 := 2 }) := by rw [← hq]; unfold Hid; simp [fillT, hOf, hm, ht]
        have HA' : Hid (apartTo m t 3) := by have := HA.out; unfold Hid apartTo at *; simp_all
        rw [hm] at HM; rw [ht] at HT
        clear hq
        go_wp2_with fail
        refine HM.out.mono ?_
        rintro e w' ⟨rfl, rfl⟩
        go_wp2_with fail
        refine HM.out.mono ?_
        rintro e w' ⟨rfl, rfl⟩
        go_wp2_with fail
        refine HT.out.mono ?_
        rintro e w' ⟨rfl, rfl⟩
        go_wp2
        go_roundw
        case rel => exact ⟨3, by omega, rfl, HP1.out.ne (by simp) _, by rw [HN.out]; exact HP2.out.set' rfl, hf.setCell (by simp) _, HA'⟩
        case measure => simp [intOf]
      · have HN : Hid (fillT m t 3 = { q with h2 := 1 }) := by rw [← hq]; unfold Hid; simp [fillT, hOf, hm, ht]
        have HA' : Hid (apartTo m t 3) := by have := HA.out; unfold Hid apartTo at *; simp_all
        rw [hm] at HM; rw [ht] at HT
        clear hq
        have HT2 : Hid (Calls Tryd.prog 41 #[.int .i64 t, .int .i64 2] (wr.setCell ⟨w.heap.size + 1, 3, none⟩ (.int .i64 1)) fun e w' => e = .returned (.bool false) ∧ (wr.setCell ⟨w.heap.size + 1, 3, none⟩ (.int .i64 1)) = w') := by
          have := in_any t 2 (wr.setCell ⟨w.heap.size + 1, 3, none⟩ (.int .i64 1)) t0 t1 (by omega)
          rw [ht] at this
          exact this
        go_wp2_with fail
        refine HM.out.mono ?_
        rintro e w' ⟨rfl, rfl⟩
        go_wp2_with fail
        refine HT.out.mono ?_
        rintro e w' ⟨rfl, rfl⟩
        go_wp2_with fail
        refine HM.out.mono ?_
        rintro e w' ⟨rfl, rfl⟩
        go_wp2_with fail
        refine HT2.out.mono ?_
        rintro e w' ⟨rfl, rfl⟩
        go_wp2
        go_roundw
        case rel => exact ⟨3, by omega, rfl, HP1.out.ne (by simp) _, by rw [HN.out]; exact HP2.out.set' rfl, hf.setCell (by simp) _, HA'⟩
        case measure => simp [intOf]
      · have hR : (rIn m t && rApart m t) = false := by unfold rApart; rw [hm, ht]; simp
        have HR := Lib.hid hR
        rw [hm] at HM; rw [ht] at HT
        clear hq hR
        go_wp2_with fail
        refine HM.out.mono ?_
        rintro e w' ⟨rfl, rfl⟩
        go_wp2_with fail
        refine HT.out.mono ?_
        rintro e w' ⟨rfl, rfl⟩
        go_wp2
        exact bodyPost_ret (v := .tuple #[.agg #[.bool false, .int .i64 0, .int .i64 0, .int .i64 0, .int .i64 0, .int .i64 0, .int .i64 0, .int .i64 0, .int .i64 0], .bool false]) (by simp [results, Tryd.results30, go_sem, hc1]) rfl (fillPost_no HR.out (by (repeat (refine Fr.setCell ?_ (by simp) _)); exact hf))
    · have HM := Lib.hid (in_any m 3 wr m0 m1 (by omega))
      have HT := Lib.hid (in_any t 3 wr t0 t1 (by omega))
      obtain ⟨q, hq⟩ : ∃ q, fillT m t 3 = q := ⟨_, rfl⟩
      rw [hq] at hp2
      have HP1 := Lib.hid hp1
      have HP2 := Lib.hid hp2
      have hc2 := hp2.cell
      have hz2 := hp2.free
      simp only [RS.cells] at hc2
      clear hp1 hp2
      rcases hm : inB m 3 with _ | _ <;> rcases ht : inB t 3 with _ | _
      · have HN : Hid (fillT m t 4 = q) := by rw [← hq]; unfold Hid; simp [fillT, hOf, hm, ht]
        have HA' : Hid (apartTo m t 4) := by have := HA.out; unfold Hid apartTo at *; simp_all
        rw [hm] at HM; rw [ht] at HT
        clear hq
        go_wp2_with fail
        refine HM.out.mono ?_
        rintro e w' ⟨rfl, rfl⟩
        go_wp2_with fail
        refine HM.out.mono ?_
        rintro e w' ⟨rfl, rfl⟩
        go_wp2_with fail
        refine HT.out.mono ?_
        rintro e w' ⟨rfl, rfl⟩
        go_wp2
        go_roundw
        case rel => exact ⟨4, by omega, rfl, HP1.out, by rw [HN.out]; exact HP2.out, hf, HA'⟩
        case measure => simp [intOf]
      · have HN : Hid (fillT m t 4 = { q with h3 := 2 }) := by rw [← hq]; unfold Hid; simp [fillT, hOf, hm, ht]
        have HA' : Hid (apartTo m t 4) := by have := HA.out; unfold Hid apartTo at *; simp_all
        rw [hm] at HM; rw [ht] at HT
        clear hq
        go_wp2_with fail
        refine HM.out.mono ?_
        rintro e w' ⟨rfl, rfl⟩
        go_wp2_with fail
        refine HM.out.mono ?_
        rintro e w' ⟨rfl, rfl⟩
        go_wp2_with fail
        refine HT.out.mono ?_
        rintro e w' ⟨rfl, rfl⟩
        go_wp2
        go_roundw
        case rel => exact ⟨4, by omega, rfl, HP1.out.ne (by simp) _, by rw [HN.out]; exact HP2.out.set' rfl, hf.setCell (by simp) _, HA'⟩
        case measure => simp [intOf]
      · have HN : Hid (fillT m t 4 = { q with h3 := 1 }) := by rw [← hq]; unfold Hid; simp [fillT, hOf, hm, ht]
        have HA' : Hid (apartTo m t 4) := by have := HA.out; unfold Hid apartTo at *; simp_all
        rw [hm] at HM; rw [ht] at HT
        clear hq
        have HT2 : Hid (Calls Tryd.prog 41 #[.int .i64 t, .int .i64 3] (wr.setCell ⟨w.heap.size + 1, 4, none⟩ (.int .i64 1)) fun e w' => e = .returned (.bool false) ∧ (wr.setCell ⟨w.heap.size + 1, 4, none⟩ (.int .i64 1)) = w') := by
          have := in_any t 3 (wr.setCell ⟨w.heap.size + 1, 4, none⟩ (.int .i64 1)) t0 t1 (by omega)
          rw [ht] at this
          exact this
        go_wp2_with fail
        refine HM.out.mono ?_
        rintro e w' ⟨rfl, rfl⟩
        go_wp2_with fail
        refine HT.out.mono ?_
        rintro e w' ⟨rfl, rfl⟩
        go_wp2_with fail
        refine HM.out.mono ?_
        rintro e w' ⟨rfl, rfl⟩
        go_wp2_with fail
        refine HT2.out.mono ?_
        rintro e w' ⟨rfl, rfl⟩
        go_wp2
        go_roundw
        case rel => exact ⟨4, by omega, rfl, HP1.out.ne (by simp) _, by rw [HN.out]; exact HP2.out.set' rfl, hf.setCell (by simp) _, HA'⟩
        case measure => simp [intOf]
      · have hR : (rIn m t && rApart m t) = false := by unfold rApart; rw [hm, ht]; simp
        have HR := Lib.hid hR
        rw [hm] at HM; rw [ht] at HT
        clear hq hR
        go_wp2_with fail
        refine HM.out.mono ?_
        rintro e w' ⟨rfl, rfl⟩
        go_wp2_with fail
        refine HT.out.mono ?_
        rintro e w' ⟨rfl, rfl⟩
        go_wp2
        exact bodyPost_ret (v := .tuple #[.agg #[.bool false, .int .i64 0, .int .i64 0, .int .i64 0, .int .i64 0, .int .i64 0, .int .i64 0, .int .i64 0, .int .i64 0], .bool false]) (by simp [results, Tryd.results30, go_sem, hc1]) rfl (fillPost_no HR.out (by (repeat (refine Fr.setCell ?_ (by simp) _)); exact hf))
    · have hR : (rIn m t && rApart m t) = true := by
        rw [HRI.out]
        have := HA.out
        unfold apartTo at this
        unfold rApart
        rw [this.1 (by omega), this.2.1 (by omega), this.2.2.1 (by omega), this.2.2.2 (by omega)]; rfl
      have HR := Lib.hid hR
      have hc2 := hp2.cell
      simp only [RS.cells, fillT] at hc2
      clear hR hp2 hp1
      go_wp2
      refine bodyPost_ret (v := .tuple #[(fillR m t).val, .bool true]) (by simp [results, Tryd.results30, go_sem, hc1, fillR, RS.val]) rfl ?_
      unfold FillPost
      rw [HR.out]
      exact ⟨rfl, by (repeat (refine Fr.setCell ?_ (by simp) _)); exact hf⟩
end Go.Proofs.YtkkmjjddalpocaaDoor
