import Derived.Test.YtjgmlnkbplgloaaR20
import Derived.Deep.LoopGhost
import Derived.StillTailTactics
import Derived.BigRegion
import Derived.Outline
namespace Go.Proofs.Ytjgmlnkbplgloaa
open Go.RowKit
set_option linter.unusedVariables false
set_option linter.unusedSimpArgs false
set_option maxHeartbeats 16000000
set_option maxRecDepth 20000
/-- The pair in memory, hidden in one. -/
def RQe (base : Nat) (w : World) (bp : Nat) (bb : Bool → Nat) (p : PQ) : Prop := ∃ rs v o ro rt lab, (∀ j, Sim (rs j) (p.sd j)) ∧ RQ base w bp bb rs p.q v o ro rt lab
theorem rplay_bad (N : Int) (dv : Value) (ds : List Int) (w : World) (hD : IntArg w dv ds) (hbad : N < 0 ∨ 999999 < N ∨ 300 < ds.length) :
    Calls Try.prog 22 #[.int .i64 N, dv] w (PlayR (0, 0, false, 1) w) := by
  obtain ⟨o, cap, rfl, _, hl⟩ := hD
  clear hl
  obtain ⟨w0, hw0⟩ : ∃ x, w.alloc (.cells #[.int .i64 0, .int .i64 0] 23) = x := ⟨_, rfl⟩
  have P0 := Pt.newA w 23 #[.int .i64 0, .int .i64 0]
  have f0 : Fr [] w w0 := by rw [← hw0]; exact (Fr.refl [] w).alloc _
  rw [hw0] at P0
  obtain ⟨br, hbr⟩ : ∃ x, w.heap.size = x := ⟨_, rfl⟩
  rw [hbr] at P0
  have c1 := P0.cell
  have z1 := P0.free
  have F0 : Fr [] w ((w0.setCell ⟨br, 0, none⟩ (.int .i64 0)).setCell ⟨br, 1, none⟩ (.int .i64 0)) := f0.step (((Fr.refl [br] w0).setCell (by simp) _).setCell (by simp) _) (by simp; omega)
  rcases (by omega : N < 0 ∨ (¬ N < 0 ∧ 999999 < N) ∨ (¬ N < 0 ∧ ¬ 999999 < N ∧ (300 : Int) < ds.length)) with h1 | ⟨h1, h2⟩ | ⟨h1, h2, h3⟩
  all_goals
    clear hbad
    replace F0 := Lib.hid F0
    replace f0 := Lib.hid f0
    go_enter Try.func22, Try.ntmps22
    go_wp2_with fail
    refine bodyPost_ret (v := .tuple #[.agg #[.int .i64 0, .int .i64 0], .bool false, .int .i64 1]) (by simp [results, Try.results22, go_sem, c1]) rfl ⟨rfl, F0.out⟩
theorem rplay_in (N : Int) (dv : Value) (ds : List Int) (w : World) (hD : IntArg w dv ds) (hN : 0 ≤ N ∧ N ≤ 999999) (hlen : ds.length ≤ 300) :
    Calls Try.prog 22 #[.int .i64 N, dv] w (PlayR (playQ N ds) w) := by
  have hPP : playQ N ds = (((runQ (startQ N) ds).sd false).m, ((runQ (startQ N) ds).sd true).m, (runQ (startQ N) ds).quiet, 0) := if_pos ⟨hN, hlen⟩
  rw [hPP]
  replace hPP := Lib.hid hPP
  obtain ⟨o, cap, rfl, hrange, hl⟩ := hD
  have n0 : ¬ N < 0 := by omega
  have n1 : ¬ 999999 < N := by omega
  have n2 : ¬ ((300 : Int) < ds.length) := by omega
  have P0 := Pt.newA w 23 #[.int .i64 0, .int .i64 0]
  obtain ⟨w0, hw0⟩ : ∃ x, w.alloc (.cells #[.int .i64 0, .int .i64 0] 23) = x := ⟨_, rfl⟩
  have f0 : Fr [] w w0 := by rw [← hw0]; exact (Fr.refl [] w).alloc _
  rw [hw0] at P0
  obtain ⟨br, hbr⟩ : ∃ x, w.heap.size = x := ⟨_, rfl⟩
  rw [hbr] at P0
  have hB := Lib.hid (fun w => begin_any N w hN)
  replace hl := Lib.hid hl
  replace hrange := Lib.hid hrange
  replace P0 := Lib.hid P0
  replace f0 := Lib.hid f0
  go_enter Try.func22, Try.ntmps22
  go_wp2_with fail
  refine (hB.out w0).mono ?_
  rintro e w1 ⟨bp, bb, rs, v, oo, ro, rt, lab, rfl, hsim, hq, f1⟩
  have Q0 : RQe w0.heap.size w1 bp bb (startQ N) := ⟨_, _, _, _, _, _, hsim, hq⟩
  have B0 : Below w0.heap.size w0 w1 := f1.below (Nat.le_refl _) (by simp)
  obtain ⟨base, hbase⟩ : ∃ x, w0.heap.size = x := ⟨_, rfl⟩
  rw [hbase] at Q0 B0
  clear hsim hq
  replace Q0 := Lib.hid Q0; replace B0 := Lib.hid B0; replace f1 := Lib.hid f1
  go_wp2_with fail
  clear hw0
  go_loopg [8] (ds.length + 1) (fun k v wr => ∃ i : Nat, i ≤ ds.length ∧ k + i = ds.length + 1 ∧ v = .int .i64 i ∧ RQe base wr bp bb (runQ (startQ N) (ds.take i)) ∧ Below base w0 wr)
  case atStart => exact ⟨0, by omega, by omega, rfl, Q0.out, B0.out⟩
  case round =>
    obtain ⟨i, hi0, hki, rfl, hQ, hBl⟩ := hrel
    by_cases hlt : i < ds.length
    · have hltI : (i : Int) < ds.length := by omega
      obtain ⟨B, off, rfl, hBlt, hc⟩ := hl.out i hlt
      obtain ⟨n, hn⟩ : ∃ n, ds[i] = n := ⟨_, rfl⟩
      rw [hn] at hc
      have hrn := hrange.out n (by rw [← hn]; exact List.getElem_mem _)
      have hPI := PI.run hN (ds.take i)
      have hrun := runQ_snoc (startQ N) ds i hlt
      rw [hn] at hrun
      obtain ⟨p, hp⟩ : ∃ p, runQ (startQ N) (ds.take i) = p := ⟨_, rfl⟩
      rw [hp] at hQ hPI hrun
      obtain ⟨rs', v', o', ro', rt', lab', hsim, hq⟩ := hQ
      have HD := Lib.hid (rdeed_any base bp bb p (ds.take i).length n wr rs' v' o' ro' rt' lab' hq hsim hPI (by rw [List.length_take]; omega) hrn.1 hrn.2)
      have lw0 := f0.out.size
      have cB : wr.cell? ⟨B, off + i, none⟩ = some (.int .i64 n) := by
        rw [hBl.cell (p := ⟨B, off + i, none⟩) (by show B < base; omega), f0.out.cell (p := ⟨B, off + i, none⟩) hBlt (by simp)]; exact hc
      replace hPI := Lib.hid hPI; replace hrun := Lib.hid hrun; replace hsim := Lib.hid hsim; replace hq := Lib.hid hq; replace hBl := Lib.hid hBl; replace hn := Lib.hid hn; replace hp := Lib.hid hp; replace hrn := Lib.hid hrn
      clear hc
      go_wp2_with fail
      refine HD.out.mono ?_
      rintro e w5 ⟨rfl, ⟨rs5, v5, o5, ro5, rt5, lab5, s5, q5⟩, b5⟩
      have QN : RQe base w5 bp bb (runQ (startQ N) (ds.take (i + 1))) := by rw [hrun.out]; exact ⟨_, _, _, _, _, _, s5, q5⟩
      have BN := hBl.out.trans b5
      clear s5 q5 b5
      replace QN := Lib.hid QN; replace BN := Lib.hid BN
      go_wp2_with fail
      go_roundg (gk - 1)
      case measure => omega
      case rel => exact ⟨i + 1, by omega, by omega, by go_num, QN.out, BN.out⟩
    · have hltI : ¬ (i : Int) < ds.length := by omega
      rw [List.take_of_length_le (by omega)] at hQ
      obtain ⟨p, hp⟩ : ∃ p, runQ (startQ N) ds = p := ⟨_, rfl⟩
      rw [hp] at hQ ⊢
      obtain ⟨rs', v', o', ro', rt', lab', hsim, hq⟩ := hQ
      have HQ := Lib.hid (fun w' (f : Fr [] wr w') => quiet_any base bp bb p w' rs' v' o' ro' rt' lab' (hq.fr0 f) hsim)
      have PB : Pt wr br 23 [.int .i64 0, .int .i64 0] := (hBl.block br (by have := P0.out.lt; omega)).trans P0.out
      have pc := hq.pair.cell
      have d0 := pc 0; have d1 := pc 1
      obtain ⟨_, _, r0, _⟩ := hq.rm false
      obtain ⟨_, _, r1, _⟩ := hq.rm true
      have g0 := r0.cell 1; have g1 := r1.cell 1
      simp only [RS.cells, List.getElem?_cons_zero, List.getElem?_cons_succ, (hsim false).m, (hsim true).m] at g0 g1 d0 d1
      obtain ⟨b0, hb0⟩ : ∃ x, bb false = x := ⟨_, rfl⟩
      obtain ⟨b1, hb1⟩ : ∃ x, bb true = x := ⟨_, rfl⟩
      rw [hb0] at g0 d0
      rw [hb1] at g1 d1
      obtain ⟨w4, hw4⟩ : ∃ x, wr.drew = x := ⟨_, rfl⟩
      have F4 : Fr [] wr w4 := by rw [← hw4]; exact (Fr.refl [] wr).drew
      have P4 : Pt w4 br 23 [.int .i64 0, .int .i64 0] := by rw [← hw4]; exact PB
      have g0' : w4.cell? ⟨b0, 1, none⟩ = some (.int .i64 (p.sd false).m) := by rw [← hw4]; exact g0
      have g1' : w4.cell? ⟨b1, 1, none⟩ = some (.int .i64 (p.sd true).m) := by rw [← hw4]; exact g1
      have d0' : w4.cell? ⟨bp, 0, none⟩ = some (.pointer (some ⟨b0, 0, none⟩)) := by rw [← hw4]; exact d0
      have d1' : w4.cell? ⟨bp, 1, none⟩ = some (.pointer (some ⟨b1, 0, none⟩)) := by rw [← hw4]; exact d1
      have HQ4 := Lib.hid (HQ.out w4 F4)
      have c4 := P4.cell
      have z4 := P4.free
      have FE : ∀ a b, Fr [] w ((w4.setCell ⟨br, 0, none⟩ a).setCell ⟨br, 1, none⟩ b) := fun a b => by
        have lbr := P0.out.lt
        have FW : Fr [br] wr ((w4.setCell ⟨br, 0, none⟩ a).setCell ⟨br, 1, none⟩ b) := ((F4.mono (by simp)).setCell (by simp) _).setCell (by simp) _
        refine f0.out.step (ex' := [br]) ⟨FW.os.trans hBl.os, FW.tape.trans hBl.tape, FW.output.trans hBl.output, Nat.le_trans hBl.size FW.size, fun k hk hx => (FW.block k (Nat.lt_of_lt_of_le hk hBl.size) hx).trans (hBl.block k (by omega))⟩ (by simp; omega)
      replace FE := Lib.hid FE
      replace hw4 := Lib.hid hw4; replace F4 := Lib.hid F4; replace P4 := Lib.hid P4; replace PB := Lib.hid PB; replace hBl := Lib.hid hBl; replace hp := Lib.hid hp; replace hb0 := Lib.hid hb0; replace hb1 := Lib.hid hb1; replace hsim := Lib.hid hsim; replace hq := Lib.hid hq
      clear r0 r1 pc
      go_upto_region 8 with fail
      go_still_tail 19, (by kernel_rfl)
      rw [show ({ heap := wr.heap, tape := wr.tape, drawn := wr.drawn + 1, os := wr.os, output := wr.output } : World) = wr.drew from rfl, hw4.out]
      repeat still_step
      still_call (HQ4.out.mono fun _ _ h => ⟨h.1, h.2.symm⟩)
      repeat still_step
      first | refine wpStill_nil ?_ | skip
      go_wp2_with fail
      refine bodyPost_ret (v := .tuple #[.agg #[.int .i64 (p.sd false).m, .int .i64 (p.sd true).m], .bool p.quiet, .int .i64 0]) (by simp [results, Try.results22, go_sem, c4]) rfl ⟨by rw [hp.out], FE.out _ _⟩
theorem rplay_any (N : Int) (dv : Value) (ds : List Int) (w : World) (hD : IntArg w dv ds) : Calls Try.prog 22 #[.int .i64 N, dv] w (PlayR (playQ N ds) w) := by
  by_cases h : (0 ≤ N ∧ N ≤ 999999) ∧ ds.length ≤ 300
  · exact rplay_in N dv ds w hD h.1 h.2
  · rw [show playQ N ds = (0, 0, false, 1) from if_neg h]
    exact rplay_bad N dv ds w hD (by omega)
end Go.Proofs.Ytjgmlnkbplgloaa
