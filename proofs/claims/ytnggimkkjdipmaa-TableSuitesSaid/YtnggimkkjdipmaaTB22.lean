import Derived.Test.YtnggimkkjdipmaaTB19
namespace Go.Proofs.Ytnggimkkjdipmaa
open Go.RowKit
set_option linter.unusedVariables false
set_option linter.unusedSimpArgs false
set_option maxHeartbeats 16000000
set_option maxRecDepth 100000
/-- Least's answer. -/
def LeastR (T : Tb) (w : World) (e : Ending) (w' : World) : Prop :=
  ∃ v' : Value, ∃ s : Int, e = .returned (.tuple #[v', .int .i64 s]) ∧ ((validT T = true ∧ s = 0 ∧ TIn w' v' (leastT T)) ∨ (validT T = false ∧ s = 1 ∧ v' = Tb.val ⟨0, 0, 0, []⟩ (.slice none 0 0))) ∧ Fr [] w w'
theorem Least_any (T : Tb) (v : Value) (w : World) (hT : TIn w v T) :
    Calls Try.prog 31 #[v] w (LeastR T w) := by
  obtain ⟨r, rfl, hR⟩ := hT
  have hval : T.val r = .agg #[.int .i64 T.st, .int .i64 T.ev, .int .i64 T.sr, r] := rfl
  rw [hval]
  have VA : ∀ W, Fr [] w W → Calls Try.prog 19 #[.agg #[.int .i64 T.st, .int .i64 T.ev, .int .i64 T.sr, r]] W fun e w' => e = .returned (.bool (validT T)) ∧ Fr [] W w' := fun W f => valid_any T _ W ⟨r, rfl, hR.fr f⟩
  have LE : ∀ W, Fr [] w W → VT T → Calls Try.prog 67 #[.agg #[.int .i64 T.st, .int .i64 T.ev, .int .i64 T.sr, r]] W fun e w' => ∃ q0 q1 q2 r', e = .returned (.agg #[.int .i64 q0, .int .i64 q1, .int .i64 q2, r']) ∧ q0 = (leastT T).st ∧ q1 = (leastT T).ev ∧ q2 = (leastT T).sr ∧ RInB (fun b => W.heap.size ≤ b) w' r' (leastT T).rows ∧ Fr [] W w' := fun W f hV => (least_any T _ W ⟨r, rfl, hR.fr f⟩ hV).mono (fun e w' h => by
    obtain ⟨r', h1, h2, h3⟩ := h
    exact ⟨_, _, _, r', h1, rfl, rfl, rfl, h2, h3⟩)
  obtain ⟨w1, hw1⟩ : ∃ x, w.alloc (.cells #[.int .i64 T.st, .int .i64 T.ev, .int .i64 T.sr, r] TTab) = x := ⟨_, rfl⟩
  have P1 := Pt.newA w TTab #[.int .i64 T.st, .int .i64 T.ev, .int .i64 T.sr, r]
  rw [hw1] at P1
  have F1 : Fr [] w w1 := by rw [← hw1]; exact (Fr.refl [] w).alloc _
  obtain ⟨b1, hb1⟩ : ∃ x, w.heap.size = x := ⟨_, rfl⟩
  rw [hb1] at P1
  obtain ⟨w2, hw2⟩ : ∃ x, w1.alloc (.cells #[.int .i64 0, .int .i64 0, .int .i64 0, .slice none 0 0] TTab) = x := ⟨_, rfl⟩
  have P2 := Pt.newA w1 TTab #[.int .i64 0, .int .i64 0, .int .i64 0, .slice none 0 0]
  rw [hw2] at P2
  have F2 : Fr [] w1 w2 := by rw [← hw2]; exact (Fr.refl [] w1).alloc _
  obtain ⟨b2, hb2⟩ : ∃ x, w1.heap.size = x := ⟨_, rfl⟩
  rw [hb2] at P2
  have l1 := P1.lt
  have lt12 : b1 < b2 := by omega
  have PA1 := F2.pt P1 (by simp)
  have FA := F1.trans F2
  have k1 := PA1.cell
  replace PA1 := Lib.hid PA1; replace P1 := Lib.hid P1; replace P2 := Lib.hid P2; replace F1 := Lib.hid F1; replace F2 := Lib.hid F2; replace FA := Lib.hid FA; replace VA := Lib.hid VA; replace LE := Lib.hid LE
  go_enter Try.func31, Try.ntmps31
  go_wp2_with fail
  refine (VA.out _ FA.out).mono ?_
  rintro e w3 ⟨rfl, f3⟩
  have k3 := (f3.pt PA1.out (by simp)).cell
  have P32 := f3.pt P2.out (by simp)
  have FB := FA.out.trans f3
  have z32 := P32.free
  have c32 := P32.cell
  clear k1
  replace FB := Lib.hid FB; replace P32 := Lib.hid P32; replace f3 := Lib.hid f3
  cases hv : validT T
  · have FE : Fr [b2] w3 ((((w3.setCell ⟨b2, 0, none⟩ (.int .i64 0)).setCell ⟨b2, 1, none⟩ (.int .i64 0)).setCell ⟨b2, 2, none⟩ (.int .i64 0)).setCell ⟨b2, 3, none⟩ (.slice none 0 0)) :=
      ((((Fr.refl [b2] w3).setCell (by simp) _).setCell (by simp) _).setCell (by simp) _).setCell (by simp) _
    have FF := FB.out.step FE (by simp; omega)
    replace FE := Lib.hid FE; replace FF := Lib.hid FF
    have hv' := Lib.hid hv
    go_wp2_with fail
    refine bodyPost_ret (v := .tuple #[.agg #[.int .i64 0, .int .i64 0, .int .i64 0, .slice none 0 0], .int .i64 1]) (by simp [results, Try.results31, go_sem, c32]) rfl ⟨_, 1, rfl, .inr ⟨hv'.out, rfl, rfl⟩, FF.out⟩
  · have hVT := (validT_iff T).mp hv
    have hv' := Lib.hid hv
    go_wp2_with fail
    refine (LE.out _ FB.out hVT).mono ?_
    rintro e w4 ⟨q0, q1, q2, r', rfl, e0, e1, e2, ht, f4⟩
    obtain ⟨oz, nz, cz, rfl⟩ : ∃ oz nz cz, r' = .slice oz nz cz := by obtain ⟨o, cap, e, _⟩ := ht; exact ⟨o, _, cap, e⟩
    have P42 := f4.pt P32.out (by simp)
    have z42 := P42.free
    have c42 := P42.cell
    have FE : Fr [b2] w4 ((((w4.setCell ⟨b2, 0, none⟩ (.int .i64 q0)).setCell ⟨b2, 1, none⟩ (.int .i64 q1)).setCell ⟨b2, 2, none⟩ (.int .i64 q2)).setCell ⟨b2, 3, none⟩ (.slice oz nz cz)) :=
      ((((Fr.refl [b2] w4).setCell (by simp) _).setCell (by simp) _).setCell (by simp) _).setCell (by simp) _
    have FF := (FB.out.trans f4).step FE (by simp; omega)
    have hlt := P32.out.lt
    have RE := (ht.fr FE (q' := fun _ => True) (fun b _ hq => ⟨by have h9 : w3.heap.size ≤ b := hq; simp; omega, trivial⟩)).rin
    have hv2 := Lib.hid hv
    replace e0 := Lib.hid e0; replace e1 := Lib.hid e1; replace e2 := Lib.hid e2
    replace FE := Lib.hid FE; replace FF := Lib.hid FF; replace RE := Lib.hid RE; replace ht := Lib.hid ht; replace f4 := Lib.hid f4; replace P42 := Lib.hid P42
    clear hv hw2 hw1
    go_wp2_with fail
    refine bodyPost_ret (v := .tuple #[.agg #[.int .i64 q0, .int .i64 q1, .int .i64 q2, .slice oz nz cz], .int .i64 0]) (by simp [results, Try.results31, go_sem, c42]) rfl ⟨_, 0, rfl, .inl ⟨hv2.out, rfl, .slice oz nz cz, ?_, RE.out⟩, FF.out⟩
    rw [e0.out, e1.out, e2.out]; rfl
end Go.Proofs.Ytnggimkkjdipmaa
namespace Go.Proofs.Ytnggimkkjdipmaa
open Go.RowKit
set_option linter.unusedVariables false
set_option linter.unusedSimpArgs false
set_option maxHeartbeats 16000000
set_option maxRecDepth 100000
def twoT : Tb := ⟨2, 1, 0, [[(1, 5)], [(0, 5)]]⟩
theorem twoT_valid : validT twoT = true := by decide +kernel
theorem twoT_least : (leastT twoT).st = 1 ∧ (leastT twoT).ev = 1 ∧ (leastT twoT).sr = 0 ∧ (leastT twoT).rows = [[(0, 5)]] := by decide +kernel
theorem two_any (w : World) : Calls Try.prog 56 #[] w fun e w' => ∃ q0 q1 q2 q3, e = .returned (.agg #[q0, q1, q2, q3]) ∧ TIn w' (.agg #[q0, q1, q2, q3]) twoT ∧ Fr [] w w' := by
  obtain ⟨w1, hw1⟩ : ∃ x, w.alloc (.cells #[.int .i64 0, .int .i64 0, .int .i64 0, .slice none 0 0] TTab) = x := ⟨_, rfl⟩
  have P1 := Pt.newA w TTab #[.int .i64 0, .int .i64 0, .int .i64 0, .slice none 0 0]
  rw [hw1] at P1
  have F1 : Fr [] w w1 := by rw [← hw1]; exact (Fr.refl [] w).alloc _
  obtain ⟨b1, hb1⟩ : ∃ x, w.heap.size = x := ⟨_, rfl⟩
  rw [hb1] at P1
  obtain ⟨w2, hw2⟩ : ∃ x, w1.alloc (.cells #[.int .i64 1, .int .i64 5] TRow) = x := ⟨_, rfl⟩
  have P2 := Pt.newA w1 TRow #[.int .i64 1, .int .i64 5]
  rw [hw2] at P2
  have F2 : Fr [] w1 w2 := by rw [← hw2]; exact (Fr.refl [] w1).alloc _
  obtain ⟨b2, hb2⟩ : ∃ x, w1.heap.size = x := ⟨_, rfl⟩
  rw [hb2] at P2
  obtain ⟨w3, hw3⟩ : ∃ x, w2.alloc (.cells #[.int .i64 0, .int .i64 5] TRow) = x := ⟨_, rfl⟩
  have P3 := Pt.newA w2 TRow #[.int .i64 0, .int .i64 5]
  rw [hw3] at P3
  have F3 : Fr [] w2 w3 := by rw [← hw3]; exact (Fr.refl [] w2).alloc _
  obtain ⟨b3, hb3⟩ : ∃ x, w2.heap.size = x := ⟨_, rfl⟩
  rw [hb3] at P3
  obtain ⟨w4, hw4⟩ : ∃ x, w3.alloc (.cells #[.slice (some ⟨b2, 0, none⟩) 1 1, .slice (some ⟨b3, 0, none⟩) 1 1] 71) = x := ⟨_, rfl⟩
  have P4 := Pt.newA w3 71 #[.slice (some ⟨b2, 0, none⟩) 1 1, .slice (some ⟨b3, 0, none⟩) 1 1]
  rw [hw4] at P4
  have F4 : Fr [] w3 w4 := by rw [← hw4]; exact (Fr.refl [] w3).alloc _
  obtain ⟨b4, hb4⟩ : ∃ x, w3.heap.size = x := ⟨_, rfl⟩
  rw [hb4] at P4
  have l1 := P1.lt; have l2 := P2.lt; have l3 := P3.lt; have l4 := P4.lt
  have Q1 := F4.pt (F3.pt (F2.pt P1 (by simp)) (by simp)) (by simp)
  have c1 := Q1.cell
  have z1 := Q1.free
  have FE : Fr [b1] w4 ((((w4.setCell ⟨b1, 0, none⟩ (.int .i64 2)).setCell ⟨b1, 1, none⟩ (.int .i64 1)).setCell ⟨b1, 2, none⟩ (.int .i64 0)).setCell ⟨b1, 3, none⟩ (.slice (some ⟨b4, 0, none⟩) 2 2)) :=
    ((((Fr.refl [b1] w4).setCell (by simp) _).setCell (by simp) _).setCell (by simp) _).setCell (by simp) _
  have FF := (((F1.trans F2).trans F3).trans F4).step FE (by simp; omega)
  have R2 := FE.pt (F4.pt (F3.pt P2 (by simp)) (by simp)) (by simp; omega)
  have R3 := FE.pt (F4.pt P3 (by simp)) (by simp; omega)
  have R4 := FE.pt P4 (by simp; omega)
  have RR : RIn ((((w4.setCell ⟨b1, 0, none⟩ (.int .i64 2)).setCell ⟨b1, 1, none⟩ (.int .i64 1)).setCell ⟨b1, 2, none⟩ (.int .i64 0)).setCell ⟨b1, 3, none⟩ (.slice (some ⟨b4, 0, none⟩) 2 2)) (.slice (some ⟨b4, 0, none⟩) 2 2) twoT.rows := by
    refine ⟨_, _, rfl, fun i hi => ⟨b4, 0, if i = 0 then .slice (some ⟨b2, 0, none⟩) 1 1 else .slice (some ⟨b3, 0, none⟩) 1 1, rfl, R4.lt, ?_, ?_⟩⟩
    · have hi' : i < 2 := hi
      rw [Nat.zero_add, R4.cell]
      obtain rfl | rfl : i = 0 ∨ i = 1 := by omega
      · rfl
      · rfl
    · have hi' : i < 2 := hi
      obtain rfl | rfl : i = 0 ∨ i = 1 := by omega
      · refine ⟨_, _, rfl, fun j hj => ⟨b2, 0, rfl, R2.lt, ?_, ?_⟩⟩
        · obtain rfl : j = 0 := by have : j < 1 := hj; omega
          exact R2.cell 0
        · obtain rfl : j = 0 := by have : j < 1 := hj; omega
          exact R2.cell 1
      · refine ⟨_, _, rfl, fun j hj => ⟨b3, 0, rfl, R3.lt, ?_, ?_⟩⟩
        · obtain rfl : j = 0 := by have : j < 1 := hj; omega
          exact R3.cell 0
        · obtain rfl : j = 0 := by have : j < 1 := hj; omega
          exact R3.cell 1
  replace P1 := Lib.hid P1; replace P2 := Lib.hid P2; replace P3 := Lib.hid P3; replace P4 := Lib.hid P4; replace F1 := Lib.hid F1; replace F2 := Lib.hid F2; replace F3 := Lib.hid F3; replace F4 := Lib.hid F4; replace Q1 := Lib.hid Q1; replace FE := Lib.hid FE; replace FF := Lib.hid FF; replace R2 := Lib.hid R2; replace R3 := Lib.hid R3; replace R4 := Lib.hid R4; replace RR := Lib.hid RR
  go_enter Try.func56, Try.ntmps56
  go_wp2_with fail
  refine bodyPost_ret (v := .agg #[.int .i64 2, .int .i64 1, .int .i64 0, .slice (some ⟨b4, 0, none⟩) 2 2]) (by simp [results, Try.results56, go_sem, c1]) rfl ⟨_, _, _, _, rfl, ⟨_, rfl, RR.out⟩, FF.out⟩
theorem sane_any (w : World) : Calls Try.prog 22 #[] w fun e w' => e = .returned (.bool true) ∧ Fr [] w w' := by
  have TW := Lib.hid (two_any w)
  have LE : ∀ (v : Value) (W : World), TIn W v twoT → Calls Try.prog 31 #[v] W fun e w' => ∃ B off cap B2 off2 cap2, e = .returned (.tuple #[.agg #[.int .i64 1, .int .i64 1, .int .i64 0, .slice (some ⟨B, off, none⟩) 1 cap], .int .i64 0]) ∧ B < w'.heap.size ∧ B2 < w'.heap.size ∧ w'.cell? ⟨B, off, none⟩ = some (.slice (some ⟨B2, off2, none⟩) 1 cap2) ∧ w'.cell? ⟨B2, off2, none⟩ = some (.int .i64 0) ∧ w'.cell? ⟨B2, off2 + 1, none⟩ = some (.int .i64 5) ∧ Fr [] W w' := fun v W h => (Least_any twoT v W h).mono (fun e w' hr => by
    obtain ⟨v', s, h1, h2, h3⟩ := hr
    rcases h2 with ⟨_, rfl, r, rfl, h5⟩ | ⟨hbad, _, _⟩
    · obtain ⟨t1, t2, t3, t4⟩ := twoT_least
      unfold Tb.val at h1
      rw [t1, t2, t3] at h1
      rw [t4] at h5
      obtain ⟨o, cap, rfl, hc⟩ := h5
      obtain ⟨B, off, u, rfl, hB, hcell, o2, cap2, rfl, hp⟩ := hc 0 (by simp)
      obtain ⟨B2, off2, e2, hB2, ha, hb⟩ := hp 0 (by simp)
      cases e2
      exact ⟨B, off, cap, B2, off2, cap2, h1, hB, hB2, hcell, by simpa using ha, by simpa using hb, h3⟩
    · rw [twoT_valid] at hbad; cases hbad)
  replace LE := Lib.hid LE
  go_enter Try.func22, Try.ntmps22
  go_wp2_with fail
  refine TW.out.mono ?_
  rintro e w1 ⟨q0, q1, q2, q3, rfl, ht, f1⟩
  go_wp2_with fail
  refine (LE.out _ w1 ht).mono ?_
  rintro e w2 ⟨B, off, cap, B2, off2, cap2, rfl, hB, hB2, c1, c2, c3, f2⟩
  obtain ⟨w3, hw3⟩ : ∃ x, w2.alloc (.cells #[.int .i64 1, .int .i64 1, .int .i64 0, .slice (some ⟨B, off, none⟩) 1 cap] TTab) = x := ⟨_, rfl⟩
  have P3 := Pt.newA w2 TTab #[.int .i64 1, .int .i64 1, .int .i64 0, .slice (some ⟨B, off, none⟩) 1 cap]
  rw [hw3] at P3
  have F3 : Fr [] w2 w3 := by rw [← hw3]; exact (Fr.refl [] w2).alloc _
  have d1 := F3.cell (p := ⟨B, off, none⟩) hB (by simp)
  rw [c1] at d1
  have d2 := F3.cell (p := ⟨B2, off2, none⟩) hB2 (by simp)
  rw [c2] at d2
  have d3 := F3.cell (p := ⟨B2, off2 + 1, none⟩) hB2 (by simp)
  rw [c3] at d3
  obtain ⟨b3, hb3⟩ : ∃ x, w2.heap.size = x := ⟨_, rfl⟩
  rw [hb3] at P3
  have k3 := P3.cell
  have FF := (f1.trans f2).trans F3
  clear c1 c2 c3
  replace P3 := Lib.hid P3; replace F3 := Lib.hid F3; replace f1 := Lib.hid f1; replace f2 := Lib.hid f2; replace FF := Lib.hid FF; replace ht := Lib.hid ht
  go_wp2_with fail
  go_ret
  exact ⟨rfl, FF.out⟩
end Go.Proofs.Ytnggimkkjdipmaa
namespace Go.Proofs.Ytnggimkkjdipmaa
open Go.RowKit
set_option linter.unusedVariables false
set_option linter.unusedSimpArgs false
set_option maxHeartbeats 16000000
set_option maxRecDepth 100000
theorem runs_any (T : Tb) (v : Value) (s : Int) (wv : Value) (l : List Int) (w : World) (hT : TIn w v T) (hz : Fits T) (hD : NIn w wv l) (hln : l.length ≤ 9223372036854775807) :
    Calls Try.prog 3 #[v, .int .i64 s, wv] w fun e w' => e = .returned (.bool true) ∧ Fr [] w w' := by
  have hlr : (T.Run s l).1.length ≤ 9223372036854775807 := by
    unfold Tb.Run; split
    · have := T.run_len l s; dsimp only; omega
    · simp
  obtain ⟨r, rfl, hR⟩ := hT
  have hval : T.val r = .agg #[.int .i64 T.st, .int .i64 T.ev, .int .i64 T.sr, r] := rfl
  rw [hval]
  obtain ⟨tv, htv⟩ : ∃ x, Value.agg #[.int .i64 T.st, .int .i64 T.ev, .int .i64 T.sr, r] = x := ⟨_, rfl⟩
  have HT : ∀ W, Fr [] w W → TIn W (.agg #[.int .i64 T.st, .int .i64 T.ev, .int .i64 T.sr, r]) T := fun W f => ⟨r, rfl, hR.fr f⟩
  obtain ⟨⟨L, s2, st2⟩, hx⟩ : ∃ x, T.Run s l = x := ⟨_, rfl⟩
  rw [hx] at hlr
  have RU : ∀ W, Fr [] w W → Calls Try.prog 16 #[.agg #[.int .i64 T.st, .int .i64 T.ev, .int .i64 T.sr, r], .int .i64 s, wv] W fun e w' => ∃ lv, e = .returned (.tuple #[lv, .int .i64 s2, .int .i64 st2]) ∧ NIn w' lv L ∧ Fr [] W w' ∧ Fr [] w w' := fun W f => (Run_any T _ s wv l W (HT W f) (hD.fr f)).mono (fun e w' h => by
    rw [hx] at h
    obtain ⟨lv, h1, h2, h3⟩ := h
    exact ⟨lv, h1, h2, h3, f.trans h3⟩)
  have RR : ∀ W rv, Fr [] w W → TIn W rv T → Calls Try.prog 17 #[rv, .int .i64 s, wv] W fun e w' => ∃ lv, e = .returned (.tuple #[lv, .int .i64 s2, .int .i64 st2]) ∧ NIn w' lv L ∧ Fr [] W w' ∧ Fr [] w w' := fun W rv f ht => (RRun_any T rv s wv l W ht (hD.fr f) hln).mono (fun e w' h => by
    rw [hx] at h
    obtain ⟨lv, h1, h2, h3⟩ := h
    exact ⟨lv, h1, h2, h3, f.trans h3⟩)
  have TO : ∀ W, Fr [] w W → Calls Try.prog 18 #[.agg #[.int .i64 T.st, .int .i64 T.ev, .int .i64 T.sr, r]] W fun e w' => ∃ rv, e = .returned rv ∧ TIn w' rv T ∧ Fr [] W w' := fun W f => to_any T _ W (HT W f) hz
  obtain ⟨w1, hw1⟩ : ∃ x, w.alloc (.cells #[.int .i64 T.st, .int .i64 T.ev, .int .i64 T.sr, r] TTab) = x := ⟨_, rfl⟩
  have P1 := Pt.newA w TTab #[.int .i64 T.st, .int .i64 T.ev, .int .i64 T.sr, r]
  rw [hw1] at P1
  have F1 : Fr [] w w1 := by rw [← hw1]; exact (Fr.refl [] w).alloc _
  obtain ⟨b1, hb1⟩ : ∃ x, w.heap.size = x := ⟨_, rfl⟩
  rw [hb1] at P1
  have k1 := P1.cell
  have VA := fun W (f : Fr [] w W) => valid_any T _ W (HT W f)
  clear htv tv hval
  replace hx := Lib.hid hx; replace hlr := Lib.hid hlr; replace P1 := Lib.hid P1; replace F1 := Lib.hid F1; replace RU := Lib.hid RU; replace RR := Lib.hid RR; replace TO := Lib.hid TO; replace HT := Lib.hid HT; replace VA := Lib.hid VA; replace hln := Lib.hid hln; replace hD := Lib.hid hD
  go_enter Try.func3, Try.ntmps3
  go_wp2_with fail
  refine (RU.out _ F1.out).mono ?_
  rintro e w2 ⟨lv, rfl, hL, f2, F2⟩
  have P2 := f2.pt P1.out (by simp)
  have k2 := P2.cell
  clear k1
  replace hL := Lib.hid hL; replace f2 := Lib.hid f2; replace F2 := Lib.hid F2; replace P2 := Lib.hid P2
  go_wp2_with fail
  refine (TO.out _ F2.out).mono ?_
  rintro e w3 ⟨rv, rfl, hrv, f3⟩
  have F3 := F2.out.trans f3
  have RR3 := Lib.hid (RR.out _ rv F3 hrv)
  replace hrv := Lib.hid hrv; replace f3 := Lib.hid f3; replace F3 := Lib.hid F3
  go_wp2_with fail
  refine RR3.out.mono ?_
  rintro e wq ⟨lv2, rfl, hL2, f4, FQ⟩
  have P4 := f4.pt (f3.out.pt P2.out (by simp)) (by simp)
  have hLq := ((hL.out.fr f3.out).fr f4)
  clear k2
  obtain ⟨bv, hbv⟩ : ∃ b, validT T = b := ⟨_, rfl⟩
  have SQ : ∀ W, Fr [] wq W → W.cell? ⟨b1, 0, none⟩ = some (.int .i64 T.st) ∧ W.cell? ⟨b1, 1, none⟩ = some (.int .i64 T.ev) ∧ W.cell? ⟨b1, 2, none⟩ = some (.int .i64 T.sr) ∧ W.cell? ⟨b1, 3, none⟩ = some r := fun W f => by
    have p := (f.pt P4 (by simp)).cell
    exact ⟨p 0, p 1, p 2, p 3⟩
  have VQ : ∀ W, Fr [] wq W → Calls Try.prog 19 #[.agg #[.int .i64 T.st, .int .i64 T.ev, .int .i64 T.sr, r]] W fun e w' => e = .returned (.bool bv) ∧ Fr [] W w' ∧ Fr [] wq w' := fun W f => (VA.out W (FQ.trans f)).mono (fun e w' h => ⟨by rw [h.1, hbv], h.2, f.trans h.2⟩)
  have TQ : ∀ W, Fr [] wq W → Calls Try.prog 18 #[.agg #[.int .i64 T.st, .int .i64 T.ev, .int .i64 T.sr, r]] W fun e w' => ∃ rv, e = .returned rv ∧ TIn w' rv T ∧ Fr [] wq w' := fun W f => (TO.out W (FQ.trans f)).mono (fun e w' h => by
    obtain ⟨rv, h1, h2, h3⟩ := h
    exact ⟨rv, h1, h2, f.trans h3⟩)
  have RQ : ∀ W rv, Fr [] wq W → TIn W rv T → Calls Try.prog 20 #[rv] W fun e w' => e = .returned (.bool bv) ∧ Fr [] wq w' := fun W rv f ht => (rvalid_any T rv W ht).mono (fun e w' h => ⟨by rw [h.1, hbv], f.trans h.2⟩)
  have IQ : ∀ W, Fr [] wq W → Calls Try.prog 21 #[lv, lv2] W fun e w' => e = .returned (.bool true) ∧ Fr [] wq w' := fun W f => (ints_any lv lv2 L L W (hLq.fr f) (hL2.fr f) hlr.out).mono (fun e w' h => ⟨by rw [h.1, decide_eq_true rfl], f.trans h.2⟩)
  have NQ : ∀ W, Fr [] wq W → Calls Try.prog 22 #[] W fun e w' => e = .returned (.bool true) ∧ Fr [] wq w' := fun W f => (sane_any W).mono (fun e w' h => ⟨h.1, f.trans h.2⟩)
  replace hL2 := Lib.hid hL2; replace f4 := Lib.hid f4; replace FQ := Lib.hid FQ; replace P4 := Lib.hid P4; replace hLq := Lib.hid hLq; replace SQ := Lib.hid SQ; replace VQ := Lib.hid VQ; replace TQ := Lib.hid TQ; replace RQ := Lib.hid RQ; replace IQ := Lib.hid IQ; replace NQ := Lib.hid NQ; replace hbv := Lib.hid hbv
  go_upto_region 3 with fail
  cases bv
  all_goals
    go_region_held3 (fun W => W.cell? ⟨b1, 0, none⟩ = some (.int .i64 T.st) ∧ W.cell? ⟨b1, 1, none⟩ = some (.int .i64 T.ev) ∧ W.cell? ⟨b1, 2, none⟩ = some (.int .i64 T.sr) ∧ W.cell? ⟨b1, 3, none⟩ = some r)
      (first | exact SQ.out _ (Fr.refl _ _).drew | exact SQ.out _ FN.out | exact SQ.out _ FI.out | exact SQ.out _ FR.out | exact SQ.out _ FV.out | exact SQ.out _ FT.out)
      ((first
        | (go_at_call 19; refine (VQ.out _ (by first | exact (Fr.refl _ _).drew | exact FR.out | exact FT.out)).mono ?_; rintro e wV ⟨rfl, fV, FV⟩; replace fV := Lib.hid fV; replace FV := Lib.hid FV)
        | (go_at_call 18; refine (TQ.out _ (by first | exact (Fr.refl _ _).drew | exact FV.out)).mono ?_; rintro e wT ⟨rv2, rfl, hT2, FT⟩; replace hT2 := Lib.hid hT2; replace FT := Lib.hid FT)
        | (go_at_call 20; refine (RQ.out _ rv2 FT.out hT2.out).mono ?_; rintro e wR ⟨rfl, FR⟩; replace FR := Lib.hid FR)
        | (go_at_call 20; refine (RQ.out _ rv2 FV.out (hT2.out.fr fV.out)).mono ?_; rintro e wR ⟨rfl, FR⟩; replace FR := Lib.hid FR)
        | (go_at_call 21; refine (IQ.out _ (by first | exact FR.out | exact FV.out)).mono ?_; rintro e wI ⟨rfl, FI⟩; replace FI := Lib.hid FI)
        | (go_at_call 22; refine (NQ.out _ FI.out).mono ?_; rintro e wN ⟨rfl, FN⟩; replace FN := Lib.hid FN)))
    all_goals
      go_wp2_with fail
      go_ret
      exact ⟨rfl, FQ.out.trans FN.out⟩
end Go.Proofs.Ytnggimkkjdipmaa
