import Derived.Test.YtnggimkkjdipmaaTB20
namespace Go.Proofs.Ytnggimkkjdipmaa
open Go.RowKit
set_option linter.unusedVariables false
set_option linter.unusedSimpArgs false
set_option maxHeartbeats 16000000
set_option maxRecDepth 100000
def twoT : Tb := ⟨2, 1, 0, [[(1, 5)], [(0, 5)]]⟩
theorem twoT_valid : validT twoT = true := by decide +kernel
theorem twoT_least : (leastT twoT).st = 1 ∧ (leastT twoT).ev = 1 ∧ (leastT twoT).sr = 0 ∧ (leastT twoT).rows = [[(0, 5)]] := by decide +kernel
theorem two_any (w : World) : Calls Try.prog 56 #[] w fun e w' => ∃ q0 q1 q2 q3, e = .returned (.agg #[q0, q1, q2, q3]) ∧ TIn w' (.agg #[q0, q1, q2, q3]) twoT ∧ Fr [] w w' := by
  obtain ⟨w1, hw1⟩ : ∃ x, w.alloc (.cells #[.int .i64 0, .int .i64 0, .int .i64 0, .slice none 0 0] TTab) = x := ⟨_, rfl⟩
  have P1 := Pt.newA w TTab #[.int .i64 0, .int .i64 0, .int .i64 0, .slice none 0 0]
  rw [hw1] at P1
  have F1 : Fr [] w w1 := by rw [← hw1]; exact (Fr.refl [] w).alloc _
  obtain ⟨b1, hb1⟩ : ∃ x, w.heap.size = x := ⟨_, rfl⟩
  rw [hb1] at P1
  obtain ⟨w2, hw2⟩ : ∃ x, w1.alloc (.cells #[.int .i64 1, .int .i64 5] TRow) = x := ⟨_, rfl⟩
  have P2 := Pt.newA w1 TRow #[.int .i64 1, .int .i64 5]
  rw [hw2] at P2
  have F2 : Fr [] w1 w2 := by rw [← hw2]; exact (Fr.refl [] w1).alloc _
  obtain ⟨b2, hb2⟩ : ∃ x, w1.heap.size = x := ⟨_, rfl⟩
  rw [hb2] at P2
  obtain ⟨w3, hw3⟩ : ∃ x, w2.alloc (.cells #[.int .i64 0, .int .i64 5] TRow) = x := ⟨_, rfl⟩
  have P3 := Pt.newA w2 TRow #[.int .i64 0, .int .i64 5]
  rw [hw3] at P3
  have F3 : Fr [] w2 w3 := by rw [← hw3]; exact (Fr.refl [] w2).alloc _
  obtain ⟨b3, hb3⟩ : ∃ x, w2.heap.size = x := ⟨_, rfl⟩
  rw [hb3] at P3
  obtain ⟨w4, hw4⟩ : ∃ x, w3.alloc (.cells #[.slice (some ⟨b2, 0, none⟩) 1 1, .slice (some ⟨b3, 0, none⟩) 1 1] 71) = x := ⟨_, rfl⟩
  have P4 := Pt.newA w3 71 #[.slice (some ⟨b2, 0, none⟩) 1 1, .slice (some ⟨b3, 0, none⟩) 1 1]
  rw [hw4] at P4
  have F4 : Fr [] w3 w4 := by rw [← hw4]; exact (Fr.refl [] w3).alloc _
  obtain ⟨b4, hb4⟩ : ∃ x, w3.heap.size = x := ⟨_, rfl⟩
  rw [hb4] at P4
  have l1 := P1.lt; have l2 := P2.lt; have l3 := P3.lt; have l4 := P4.lt
  have Q1 := F4.pt (F3.pt (F2.pt P1 (by simp)) (by simp)) (by simp)
  have c1 := Q1.cell
  have z1 := Q1.free
  have FE : Fr [b1] w4 ((((w4.setCell ⟨b1, 0, none⟩ (.int .i64 2)).setCell ⟨b1, 1, none⟩ (.int .i64 1)).setCell ⟨b1, 2, none⟩ (.int .i64 0)).setCell ⟨b1, 3, none⟩ (.slice (some ⟨b4, 0, none⟩) 2 2)) :=
    ((((Fr.refl [b1] w4).setCell (by simp) _).setCell (by simp) _).setCell (by simp) _).setCell (by simp) _
  have FF := (((F1.trans F2).trans F3).trans F4).step FE (by simp; omega)
  have R2 := FE.pt (F4.pt (F3.pt P2 (by simp)) (by simp)) (by simp; omega)
  have R3 := FE.pt (F4.pt P3 (by simp)) (by simp; omega)
  have R4 := FE.pt P4 (by simp; omega)
  have RR : RIn ((((w4.setCell ⟨b1, 0, none⟩ (.int .i64 2)).setCell ⟨b1, 1, none⟩ (.int .i64 1)).setCell ⟨b1, 2, none⟩ (.int .i64 0)).setCell ⟨b1, 3, none⟩ (.slice (some ⟨b4, 0, none⟩) 2 2)) (.slice (some ⟨b4, 0, none⟩) 2 2) twoT.rows := by
    refine ⟨_, _, rfl, fun i hi => ⟨b4, 0, if i = 0 then .slice (some ⟨b2, 0, none⟩) 1 1 else .slice (some ⟨b3, 0, none⟩) 1 1, rfl, R4.lt, ?_, ?_⟩⟩
    · have hi' : i < 2 := hi
      rw [Nat.zero_add, R4.cell]
      obtain rfl | rfl : i = 0 ∨ i = 1 := by omega
      · rfl
      · rfl
    · have hi' : i < 2 := hi
      obtain rfl | rfl : i = 0 ∨ i = 1 := by omega
      · refine ⟨_, _, rfl, fun j hj => ⟨b2, 0, rfl, R2.lt, ?_, ?_⟩⟩
        · obtain rfl : j = 0 := by have : j < 1 := hj; omega
          exact R2.cell 0
        · obtain rfl : j = 0 := by have : j < 1 := hj; omega
          exact R2.cell 1
      · refine ⟨_, _, rfl, fun j hj => ⟨b3, 0, rfl, R3.lt, ?_, ?_⟩⟩
        · obtain rfl : j = 0 := by have : j < 1 := hj; omega
          exact R3.cell 0
        · obtain rfl : j = 0 := by have : j < 1 := hj; omega
          exact R3.cell 1
  replace P1 := Lib.hid P1; replace P2 := Lib.hid P2; replace P3 := Lib.hid P3; replace P4 := Lib.hid P4; replace F1 := Lib.hid F1; replace F2 := Lib.hid F2; replace F3 := Lib.hid F3; replace F4 := Lib.hid F4; replace Q1 := Lib.hid Q1; replace FE := Lib.hid FE; replace FF := Lib.hid FF; replace R2 := Lib.hid R2; replace R3 := Lib.hid R3; replace R4 := Lib.hid R4; replace RR := Lib.hid RR
  go_enter Try.func56, Try.ntmps56
  go_wp2_with fail
  refine bodyPost_ret (v := .agg #[.int .i64 2, .int .i64 1, .int .i64 0, .slice (some ⟨b4, 0, none⟩) 2 2]) (by simp [results, Try.results56, go_sem, c1]) rfl ⟨_, _, _, _, rfl, ⟨_, rfl, RR.out⟩, FF.out⟩
theorem sane_any (w : World) : Calls Try.prog 22 #[] w fun e w' => e = .returned (.bool true) ∧ Fr [] w w' := by
  have TW := Lib.hid (two_any w)
  have LE : ∀ (v : Value) (W : World), TIn W v twoT → Calls Try.prog 31 #[v] W fun e w' => ∃ B off cap B2 off2 cap2, e = .returned (.tuple #[.agg #[.int .i64 1, .int .i64 1, .int .i64 0, .slice (some ⟨B, off, none⟩) 1 cap], .int .i64 0]) ∧ B < w'.heap.size ∧ B2 < w'.heap.size ∧ w'.cell? ⟨B, off, none⟩ = some (.slice (some ⟨B2, off2, none⟩) 1 cap2) ∧ w'.cell? ⟨B2, off2, none⟩ = some (.int .i64 0) ∧ w'.cell? ⟨B2, off2 + 1, none⟩ = some (.int .i64 5) ∧ Fr [] W w' := fun v W h => (Least_any twoT v W h).mono (fun e w' hr => by
    obtain ⟨v', s, h1, h2, h3⟩ := hr
    rcases h2 with ⟨_, rfl, r, rfl, h5⟩ | ⟨hbad, _, _⟩
    · obtain ⟨t1, t2, t3, t4⟩ := twoT_least
      unfold Tb.val at h1
      rw [t1, t2, t3] at h1
      rw [t4] at h5
      obtain ⟨o, cap, rfl, hc⟩ := h5
      obtain ⟨B, off, u, rfl, hB, hcell, o2, cap2, rfl, hp⟩ := hc 0 (by simp)
      obtain ⟨B2, off2, e2, hB2, ha, hb⟩ := hp 0 (by simp)
      cases e2
      exact ⟨B, off, cap, B2, off2, cap2, h1, hB, hB2, hcell, by simpa using ha, by simpa using hb, h3⟩
    · rw [twoT_valid] at hbad; cases hbad)
  replace LE := Lib.hid LE
  go_enter Try.func22, Try.ntmps22
  go_wp2_with fail
  refine TW.out.mono ?_
  rintro e w1 ⟨q0, q1, q2, q3, rfl, ht, f1⟩
  go_wp2_with fail
  refine (LE.out _ w1 ht).mono ?_
  rintro e w2 ⟨B, off, cap, B2, off2, cap2, rfl, hB, hB2, c1, c2, c3, f2⟩
  obtain ⟨w3, hw3⟩ : ∃ x, w2.alloc (.cells #[.int .i64 1, .int .i64 1, .int .i64 0, .slice (some ⟨B, off, none⟩) 1 cap] TTab) = x := ⟨_, rfl⟩
  have P3 := Pt.newA w2 TTab #[.int .i64 1, .int .i64 1, .int .i64 0, .slice (some ⟨B, off, none⟩) 1 cap]
  rw [hw3] at P3
  have F3 : Fr [] w2 w3 := by rw [← hw3]; exact (Fr.refl [] w2).alloc _
  have d1 := F3.cell (p := ⟨B, off, none⟩) hB (by simp)
  rw [c1] at d1
  have d2 := F3.cell (p := ⟨B2, off2, none⟩) hB2 (by simp)
  rw [c2] at d2
  have d3 := F3.cell (p := ⟨B2, off2 + 1, none⟩) hB2 (by simp)
  rw [c3] at d3
  obtain ⟨b3, hb3⟩ : ∃ x, w2.heap.size = x := ⟨_, rfl⟩
  rw [hb3] at P3
  have k3 := P3.cell
  have FF := (f1.trans f2).trans F3
  clear c1 c2 c3
  replace P3 := Lib.hid P3; replace F3 := Lib.hid F3; replace f1 := Lib.hid f1; replace f2 := Lib.hid f2; replace FF := Lib.hid FF; replace ht := Lib.hid ht
  go_wp2_with fail
  go_ret
  exact ⟨rfl, FF.out⟩
end Go.Proofs.Ytnggimkkjdipmaa
