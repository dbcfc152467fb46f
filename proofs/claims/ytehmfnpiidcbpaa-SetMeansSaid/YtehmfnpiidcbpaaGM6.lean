import Derived.Test.YtehmfnpiidcbpaaGM5
namespace Go.Proofs.Ytehmfnpiidcbpaa
open Go.RowKit
set_option linter.unusedVariables false
set_option linter.unusedSimpArgs false
set_option maxHeartbeats 16000000
set_option maxRecDepth 100000
/-! ### Root -/
def zeN : Nd := .mk 0 0 0 []
def RootP (n : Nd) (m : Nd) (c : Int) : Prop := (chkF n = 0 ∧ c = 0 ∧ m = n.rt) ∨ (chkF n ≠ 0 ∧ c = chkF n ∧ m = zeN)
def RootR (n : Nd) (w : World) (e : Ending) (w' : World) : Prop := ∃ s m c, e = .returned (.tuple #[ndV m s, .int .i64 c]) ∧ NI w' m (ndV m s) ∧ RootP n m c ∧ Fr [] w w'
theorem chk_sh' {n : Nd} (h : chkF n = 0) : n.sh = true := by
  unfold chkF at h
  split at h
  · omega
  · split at h
    · assumption
    · omega
theorem Root_any (n : Nd) (w : World) (v : Value) (hN : n.nodes ≤ 100000) (hv : NI w n v) :
    Calls Try.prog 29 #[v] w (RootR n w) := by
  have C := fun W (f : Fr [] w W) => check_any n W v hN (hv.go f)
  have V := fun (h : chkF n = 0) W (f : Fr [] w W) => root_any n.nodes n W v (Nat.le_refl _) hN (chk_sh' h) (hv.go f)
  obtain ⟨o, cap, rfl, hl⟩ := hv.open
  clear hl hv
  obtain ⟨op, hop⟩ : ∃ x, n.op = x := ⟨_, rfl⟩
  obtain ⟨lo, hlo⟩ : ∃ x, n.lo = x := ⟨_, rfl⟩
  obtain ⟨hi, hhi⟩ : ∃ x, n.hi = x := ⟨_, rfl⟩
  obtain ⟨K, hK⟩ : ∃ x, n.kids.length = x := ⟨_, rfl⟩
  rw [hop, hlo, hhi, hK] at C V ⊢
  obtain ⟨E, hE⟩ : ∃ x, chkF n = x := ⟨_, rfl⟩
  rw [hE] at C V
  obtain ⟨w1, hw1⟩ : ∃ x, w.alloc (.cells #[.int .i64 op, .int .i64 lo, .int .i64 hi, .slice o K cap] 46) = x := ⟨_, rfl⟩
  have P1 := Pt.newA w 46 #[.int .i64 op, .int .i64 lo, .int .i64 hi, .slice o K cap]
  rw [hw1] at P1
  have F1 : Fr [] w w1 := by rw [← hw1]; exact (Fr.refl [] w).alloc _
  obtain ⟨b1, hb1⟩ : ∃ x, w.heap.size = x := ⟨_, rfl⟩
  rw [hb1] at P1
  obtain ⟨w2, hw2⟩ : ∃ x, w1.alloc (.cells #[.int .i64 0, .int .i64 0, .int .i64 0, .slice none 0 0] 46) = x := ⟨_, rfl⟩
  have P0 := Pt.newA w1 46 #[.int .i64 0, .int .i64 0, .int .i64 0, .slice none 0 0]
  rw [hw2] at P0
  have F2 : Fr [] w1 w2 := by rw [← hw2]; exact (Fr.refl [] w1).alloc _
  obtain ⟨r0, hr0⟩ : ∃ x, w1.heap.size = x := ⟨_, rfl⟩
  rw [hr0] at P0
  have Q1 := F2.pt P1 (by simp)
  have k1 := Q1.cell
  have G2 := F1.trans F2
  have C1 := C w2 G2
  have hr0 : w.heap.size ≤ r0 := by have := F1.size; omega
  have nr : b1 ≠ r0 := by have := P1.lt; omega
  by_cases h0 : E = 0
  · as_aux_lemma =>
    subst h0
    replace V := V rfl
    replace C := Lib.hid C; replace C1 := Lib.hid C1; replace V := Lib.hid V; replace P1 := Lib.hid P1; replace F1 := Lib.hid F1; replace P0 := Lib.hid P0; replace F2 := Lib.hid F2; replace Q1 := Lib.hid Q1; replace G2 := Lib.hid G2; replace hop := Lib.hid hop; replace hlo := Lib.hid hlo; replace hhi := Lib.hid hhi; replace hK := Lib.hid hK; replace hE := Lib.hid hE; replace hr0 := Lib.hid hr0
    go_enter Try.func29, Try.ntmps29
    go_wp2_with fail
    refine (C1.out).mono ?_
    rintro e w3 ⟨rfl, f3⟩
    have F3 := G2.out.trans f3
    have k3 := (f3.pt Q1.out (by simp)).cell
    have P03 := f3.pt P0.out (by simp)
    have V2 := V.out w3 F3
    replace f3 := Lib.hid f3; replace F3 := Lib.hid F3; replace V2 := Lib.hid V2; replace P03 := Lib.hid P03
    go_wp2_with fail
    refine (V2.out).mono ?_
    rintro e w4 ⟨s4, rfl, n4, f4⟩
    obtain ⟨o4, L4, c4, rfl⟩ := n4.sl
    have P04 := f4.pt P03.out (by simp)
    have k04 := P04.cell
    have z04 := P04.free
    obtain ⟨R, hR⟩ : ∃ R, n.rt = R := ⟨_, rfl⟩
    rw [hR] at n4 ⊢
    obtain ⟨Rop, hRop⟩ : ∃ x, R.op = x := ⟨_, rfl⟩
    obtain ⟨Rlo, hRlo⟩ : ∃ x, R.lo = x := ⟨_, rfl⟩
    obtain ⟨Rhi, hRhi⟩ : ∃ x, R.hi = x := ⟨_, rfl⟩
    unfold ndV at n4 ⊢
    rw [hRop, hRlo, hRhi] at n4 ⊢
    obtain ⟨G, hG⟩ : ∃ G, (((w4.setCell ⟨r0, 0, none⟩ (.int .i64 Rop)).setCell ⟨r0, 1, none⟩ (.int .i64 Rlo)).setCell ⟨r0, 2, none⟩ (.int .i64 Rhi)).setCell ⟨r0, 3, none⟩ (.slice o4 L4 c4) = G := ⟨_, rfl⟩
    have FG : Fr [r0] w4 G := by
      rw [← hG]
      exact ((((Fr.refl [r0] w4).setCell (by simp) _).setCell (by simp) _).setCell (by simp) _).setCell (by simp) _
    have PG : Pt G r0 46 [.int .i64 Rop, .int .i64 Rlo, .int .i64 Rhi, .slice o4 L4 c4] := by
      rw [← hG]
      exact (((P04.set' rfl).set' rfl).set' rfl).set' rfl
    have NG : NI G R (.agg #[.int .i64 Rop, .int .i64 Rlo, .int .i64 Rhi, .slice o4 L4 c4]) := n4.fr FG (fun b hb hq => by have := P03.out.lt; exact ⟨by simp; omega, trivial⟩)
    have GO : RootR n w (.returned (.tuple #[.agg #[.int .i64 Rop, .int .i64 Rlo, .int .i64 Rhi, .slice o4 L4 c4], .int .i64 0])) G := ⟨.slice o4 L4 c4, R, 0, by unfold ndV; rw [hRop, hRlo, hRhi], by unfold ndV; rw [hRop, hRlo, hRhi]; exact NG, .inl ⟨hE.out, rfl, hR.symm⟩, (F3.out.trans f4).step FG (fun z hz => .inr (by simp at hz; have := hr0.out; omega))⟩
    have cG := PG.cell
    clear k1 k3
    replace n4 := Lib.hid n4; replace f4 := Lib.hid f4; replace P04 := Lib.hid P04; replace FG := Lib.hid FG; replace PG := Lib.hid PG; replace NG := Lib.hid NG; replace GO := Lib.hid GO; replace hRop := Lib.hid hRop; replace hRlo := Lib.hid hRlo; replace hRhi := Lib.hid hRhi; replace hR := Lib.hid hR
    go_wp2_with fail
    exact bodyPost_ret (v := .tuple #[.agg #[.int .i64 Rop, .int .i64 Rlo, .int .i64 Rhi, .slice o4 L4 c4], .int .i64 0]) (by simp [results, Try.results29, go_sem, cG]) rfl GO.out
  · as_aux_lemma =>
    have hEn : chkF n ≠ 0 := by rw [hE]; exact h0
    have b9 : (E == 0) = false := by simpa using h0
    have b9' : (E != 0) = true := by simpa using h0
    clear h0 V
    replace C := Lib.hid C; replace C1 := Lib.hid C1; replace P1 := Lib.hid P1; replace F1 := Lib.hid F1; replace P0 := Lib.hid P0; replace F2 := Lib.hid F2; replace Q1 := Lib.hid Q1; replace G2 := Lib.hid G2; replace hop := Lib.hid hop; replace hlo := Lib.hid hlo; replace hhi := Lib.hid hhi; replace hK := Lib.hid hK; replace hE := Lib.hid hE; replace hr0 := Lib.hid hr0; replace hEn := Lib.hid hEn
    go_enter Try.func29, Try.ntmps29
    go_wp2_with fail
    refine (C1.out).mono ?_
    rintro e w4 ⟨rfl, f3⟩
    have F3 := G2.out.trans f3
    have P04 := f3.pt P0.out (by simp)
    have k04 := P04.cell
    have z04 := P04.free
    obtain ⟨G, hG⟩ : ∃ G, (((w4.setCell ⟨r0, 0, none⟩ (.int .i64 0)).setCell ⟨r0, 1, none⟩ (.int .i64 0)).setCell ⟨r0, 2, none⟩ (.int .i64 0)).setCell ⟨r0, 3, none⟩ (.slice none 0 0) = G := ⟨_, rfl⟩
    have FG : Fr [r0] w4 G := by
      rw [← hG]
      exact ((((Fr.refl [r0] w4).setCell (by simp) _).setCell (by simp) _).setCell (by simp) _).setCell (by simp) _
    have PG : Pt G r0 46 [.int .i64 0, .int .i64 0, .int .i64 0, .slice none 0 0] := by
      rw [← hG]
      exact (((P04.set' rfl).set' rfl).set' rfl).set' rfl
    have NG : NI G zeN (.agg #[.int .i64 0, .int .i64 0, .int .i64 0, .slice none 0 0]) := NIn.mk 0 0 0 [] none 0 (fun _ => .slice none 0 0) (fun i hi => by cases hi) (fun i hi => by cases hi)
    have GO : RootR n w (.returned (.tuple #[.agg #[.int .i64 0, .int .i64 0, .int .i64 0, .slice none 0 0], .int .i64 E])) G := ⟨.slice none 0 0, zeN, E, rfl, NG, .inr ⟨hEn.out, hE.out.symm, rfl⟩, F3.step FG (fun z hz => .inr (by simp at hz; have := hr0.out; omega))⟩
    have cG := PG.cell
    clear k1
    replace f3 := Lib.hid f3; replace F3 := Lib.hid F3; replace P04 := Lib.hid P04; replace FG := Lib.hid FG; replace PG := Lib.hid PG; replace NG := Lib.hid NG; replace GO := Lib.hid GO
    go_wp2_with fail
    exact bodyPost_ret (v := .tuple #[.agg #[.int .i64 0, .int .i64 0, .int .i64 0, .slice none 0 0], .int .i64 E]) (by simp [results, Try.results29, go_sem, cG]) rfl GO.out
end Go.Proofs.Ytehmfnpiidcbpaa
