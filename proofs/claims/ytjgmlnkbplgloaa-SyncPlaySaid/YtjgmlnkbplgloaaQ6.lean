import Derived.Test.YtjgmlnkbplgloaaQ5
namespace Go.Proofs.Ytjgmlnkbplgloaa
open Go.RowKit
set_option linter.unusedVariables false
set_option linter.unusedSimpArgs false
set_option maxHeartbeats 8000000
set_option maxRecDepth 20000
/-! ### The play: a side meets an event -/
def mtS (sd : Bool → SS) (j : Bool) (e : Ev) : Bool → SS := upd sd j (onS (sd j) e).1
def mtQ (sd : Bool → SS) (q : Bool → List Ev) (j : Bool) (e : Ev) : Bool → List Ev := upd q (!j) (q (!j) ++ downs (onS (sd j) e).2.1)
theorem meet_any (base : Nat) (w : World) (bs bw : Nat) (bb : Bool → Nat) (sd : Bool → SS) (q : Bool → List Ev) (vv : Bool → Value) (o : Bool → Option Nat) (j : Bool) (e : Ev) (n : Int) (hn : n = (j.toNat : Int)) (h : QM base w bs bw bb sd q vv o) (hI : SI (sd j)) (hlen : (q (!j)).length < 1000000) :
    Calls Try.prog 32 #[.int .i64 n, e.val, .pointer (some ⟨bs, 0, none⟩), .pointer (some ⟨bw, 0, none⟩)] w fun r w' => r = .returned (.tuple #[]) ∧ (∃ v' o', QM base w' bs bw bb (mtS sd j e) (mtQ sd q j e) v' o') ∧ Below base w w' := by
  subst hn
  obtain ⟨w1, hw1⟩ : ∃ x, w.alloc (.cells e.cells.toArray TEv) = x := ⟨_, rfl⟩
  have hE := Pt.newA w TEv e.cells.toArray
  have f1 : Fr [] w w1 := by rw [← hw1]; exact (Fr.refl [] w).alloc _
  rw [hw1] at hE
  obtain ⟨be, hbe⟩ : ∃ x, w.heap.size = x := ⟨_, rfl⟩
  rw [hbe] at hE
  have Q1 := h.fr0 f1
  have hbb2 := fun k => h.lt (bb k) (mem_bb k)
  have hbs2 := h.lt bs mem_bs
  have hbw2 := h.lt bw mem_bw
  have hne := h.ne
  obtain ⟨bj, hbj⟩ : ∃ n, bb j = n := ⟨_, rfl⟩
  have hbej : be ≠ bj := by rw [← hbj, ← hbe]; have := hbb2 j; omega
  have hbsj : bs ≠ bj := by rw [← hbj]; exact (hne.2.1 j).1
  obtain ⟨nj, hnj⟩ : ∃ n, j.toNat = n := ⟨_, rfl⟩
  obtain ⟨nk, hnk⟩ : ∃ n, (!j).toNat = n := ⟨_, rfl⟩
  have hnj2 : (nj : Int) < 2 := by rw [← hnj]; cases j <;> decide
  have hnk2 : (nk : Int) < 2 := by rw [← hnk]; cases j <;> decide
  have hsub : (1 : Int) - (nj : Int) = nk := by rw [← hnj, ← hnk]; cases j <;> rfl
  rw [hnj]
  have hON := Lib.hid (on_any bj (sd j) e w1.drew (by rw [← hbj]; exact (Q1.fr0 (Fr.refl [] w1).drew).sm j) hI)
  have hS : ∀ w', Fr [bj] w1.drew w' → (w'.cell? ⟨bs, nj, none⟩ = some (.pointer (some ⟨bj, 0, none⟩)) ∧ w'.cell? ⟨be, 0, none⟩ = some (.int .i64 e.way) ∧ w'.cell? ⟨be, 1, none⟩ = some (.int .i64 e.kind) ∧ w'.cell? ⟨be, 2, none⟩ = some (.int .i64 e.a) ∧ w'.cell? ⟨be, 3, none⟩ = some (.int .i64 e.b) ∧ w'.cell? ⟨be, 4, none⟩ = some (.int .i64 e.c) ∧ w'.cell? ⟨be, 5, none⟩ = some (.string e.data)) := fun w' hf => by
    have c1 := (hf.pt Q1.sides.drew (by simp; exact hbsj)).cell
    have c2 := (hf.pt hE.drew (by simp; exact hbej)).cell
    refine ⟨?_, ?_, ?_, ?_, ?_, ?_, ?_⟩
    · rw [c1, ← hnj, ← hbj]; exact pair_get (fun k => Value.pointer (some ⟨bb k, 0, none⟩)) j
    all_goals (rw [c2]; rfl)
  have hS00 := Lib.hid (hS _ (Fr.refl _ _))
  obtain ⟨R, hR⟩ : ∃ x, onS (sd j) e = x := ⟨_, rfl⟩
  have hone := on_one (sd j) e
  have hmS : mtS sd j e = upd sd j R.1 := by unfold mtS; rw [hR]
  have hmQ : mtQ sd q j e = upd q (!j) (q (!j) ++ downs R.2.1) := by unfold mtQ; rw [hR]
  rw [hR] at hON hone
  obtain ⟨s', L, cd⟩ := R
  dsimp only at hON hone hmS hmQ
  rw [hmS, hmQ]
  obtain ⟨way, kind, ea, eb, ec, ed⟩ := e
  dsimp only [Ev.val] at hON hS hS00 ⊢
  simp only [Ev.cells] at hw1
  replace hS := Lib.hid hS; replace hE := Lib.hid hE; replace Q1 := Lib.hid Q1; replace h := Lib.hid h; replace hne := Lib.hid hne; replace hR := Lib.hid hR; replace hone := Lib.hid hone; replace f1 := Lib.hid f1; replace hI := Lib.hid hI
  replace hnj := Lib.hid hnj; replace hnk := Lib.hid hnk; replace hbj := Lib.hid hbj; replace hbb2 := Lib.hid hbb2; replace hmS := Lib.hid hmS; replace hmQ := Lib.hid hmQ
  go_enter Try.func32, Try.ntmps32
  go_wp2_with fail
  go_region_held3 (fun w' => w'.cell? ⟨bs, nj, none⟩ = some (.pointer (some ⟨bj, 0, none⟩)) ∧ w'.cell? ⟨be, 0, none⟩ = some (.int .i64 way) ∧ w'.cell? ⟨be, 1, none⟩ = some (.int .i64 kind) ∧ w'.cell? ⟨be, 2, none⟩ = some (.int .i64 ea) ∧ w'.cell? ⟨be, 3, none⟩ = some (.int .i64 eb) ∧ w'.cell? ⟨be, 4, none⟩ = some (.int .i64 ec) ∧ w'.cell? ⟨be, 5, none⟩ = some (.string ed))
    (first | exact hS00.out | exact hS.out _ f3.out) (first | (go_at_call 13; refine hON.out.mono ?_; rintro r w3 ⟨⟨v, rfl, hv⟩, p3, f3⟩; replace hv := Lib.hid hv; replace p3 := Lib.hid p3; replace f3 := Lib.hid f3))
  have f3' : Fr [bb j] w w3 := by rw [hbj.out]; exact ((f1.out.mono (by simp)).drew).trans f3.out
  have Q3 := h.out.on j (s' := s') (by rw [hbj.out]; exact p3.out) f3'
  have B3 : Below base w w3 := h.out.below f3' (by intro x hx; rw [List.mem_singleton.mp hx]; exact mem_bb j)
  replace f3' := Lib.hid f3'
  clear hON hS hS00
  rcases hv.out with ⟨rfl, rfl⟩ | ⟨B, x, rfl, rfl, hx, hBB⟩
  · replace Q3 := Lib.hid Q3; replace B3 := Lib.hid B3
    clear hw1
    go_wp2_with fail
    refine wp_loop_once ?_
    go_wp2_with fail
    go_end0
    exact ⟨rfl, ⟨_, _, by rw [show downs [] = [] from rfl, List.append_nil, upd_self]; exact Q3.out⟩, B3.out⟩
  · have cx := hx.cell
    obtain ⟨wx, hwx⟩ : ∃ y, w3.alloc (.cells x.cells.toArray TEv) = y := ⟨_, rfl⟩
    have PX := Pt.newA w3 TEv x.cells.toArray
    rw [hwx] at PX
    obtain ⟨bz, hbz⟩ : ∃ y, w3.heap.size = y := ⟨_, rfl⟩
    rw [hbz] at PX
    have FX : Fr [] w3 wx := by rw [← hwx]; exact (Fr.refl [] w3).alloc _
    have cz := PX.cell
    have bzlt := PX.lt
    by_cases hxw : (x.way == 1) = true
    · have hD : downs [x] = [x] := by simp [downs, hxw]
      obtain ⟨wy, hwy⟩ : ∃ y, wx.drew.alloc (.cells x.cells.toArray TEv) = y := ⟨_, rfl⟩
      have PY := Pt.newA wx.drew TEv x.cells.toArray
      rw [hwy] at PY
      have FY : Fr [] wx wy := by rw [← hwy]; exact (Fr.refl [] wx).drew.alloc _
      have hsrc : Src Try.prog 6 27 (.slice (some ⟨wx.drew.heap.size, 0, none⟩) 1 1) 1 x.cells wy := Src.ofSlice wy uEvs' ⟨wx.drew.heap.size, 0, none⟩ 1 1 x.cells rfl (fun j u hu => by rw [Addr.add_lit, PY.cell, Nat.zero_add]; exact hu) (by intro u hu; simp [Ev.cells] at hu; rcases hu with rfl | rfl | rfl | rfl | rfl | rfl <;> rfl)
      obtain ⟨oo, cc, wz, o4, hrun, fz, PWZ, QZ, BZ⟩ := (Q3.fr0 (FX.trans FY)).push (!j) x hlen hsrc
      have hm4 : wx.drew.cell? ⟨bw, nk, none⟩ = some (vv (!j)) := by rw [(FX.pt Q3.way (by simp)).drew.cell, ← hnk.out]; exact pair_get vv (!j)
      have hmy : wy.cell? ⟨bw, nk, none⟩ = some (vv (!j)) := by rw [((FX.trans FY).pt Q3.way (by simp)).cell, ← hnk.out]; exact pair_get vv (!j)
      have ffz := PWZ.free
      have cfk : wz.cell? ⟨bw, nk, none⟩ = some (vv (!j)) := by rw [PWZ.cell, ← hnk.out]; exact pair_get vv (!j)
      obtain ⟨by_, hby⟩ : ∃ y, wx.heap.size = y := ⟨_, rfl⟩
      rw [show wx.drew.heap.size = by_ from hby] at hrun
      rw [hnk.out] at QZ BZ
      have B4 := B3.trans (((FX.trans FY).below (n := base) (by have := h.out.ge bs mem_bs; have := Q3.lt bs mem_bs; omega) (by simp)).trans BZ)
      obtain ⟨xw, xk, xa, xb, xc, xd⟩ := x
      have h01 : (0 : Int) < 1 := by omega
      have hwr : IntKind.i64.wrap 1 = 1 := by decide
      have hwr0 : IntKind.i64.wrap 0 = 0 := by decide
      have hnkw : IntKind.i64.wrap (nk : Int) = nk := by rw [IntKind.wrap_i64]; omega
      have hsubw : IntKind.i64.wrap (1 - (nj : Int)) = nk := by rw [hsub]; exact hnkw
      have hnk0 : (0 : Int) ≤ (nk : Int) := by omega
      simp only [Ev.cells] at cx cz hwx hwy
      obtain ⟨vk, hvk⟩ : ∃ y, vv (!j) = y := ⟨_, rfl⟩
      rw [hvk] at hrun hm4 hmy cfk
      obtain ⟨nl, hnl⟩ : ∃ y, (q (!j)).length + 1 = y := ⟨_, rfl⟩
      rw [hnl] at hrun QZ B4
      replace Q3 := Lib.hid Q3; replace B3 := Lib.hid B3; replace hx := Lib.hid hx; replace PY := Lib.hid PY; replace FY := Lib.hid FY; replace hsrc := Lib.hid hsrc; replace hrun := Lib.hid hrun; replace fz := Lib.hid fz; replace PWZ := Lib.hid PWZ; replace QZ := Lib.hid QZ; replace B4 := Lib.hid B4; replace BZ := Lib.hid BZ; replace hD := Lib.hid hD; replace hvk := Lib.hid hvk; replace hnl := Lib.hid hnl; replace PX := Lib.hid PX; replace FX := Lib.hid FX
      clear hw1
      dsimp only at hxw
      go_wp2_with fail
      refine wp_loop_rounds 2 ?_
      rw [rounds_succ]
      go_wp2_with fail
      go_region_law (first | (refine step_append_run rfl _ _ _ rfl (v := vk) rfl (xv := .slice (some ⟨by_, 0, none⟩) 1 1) rfl hrun.out ?_))
      all_goals
        go_wp2_with fail
        rw [rounds_succ]
        go_wp2_with fail
        go_end0
        exact ⟨rfl, ⟨_, _, by rw [hD.out]; exact QZ.out⟩, B4.out⟩
    · have hD : downs [x] = [] := by simp [downs, hxw]
      have hxw' : (x.way == 1) = false := by simpa using hxw
      have h01 : (0 : Int) < 1 := by omega
      have Q4 := Q3.fr0 FX
      have B4 := B3.trans (FX.below (n := base) (by have := h.out.ge bs mem_bs; have := Q3.lt bs mem_bs; omega) (by simp))
      obtain ⟨xw, xk, xa, xb, xc, xd⟩ := x
      simp only [Ev.cells] at cx cz hwx
      replace Q3 := Lib.hid Q3; replace B3 := Lib.hid B3; replace hx := Lib.hid hx; replace hD := Lib.hid hD; replace Q4 := Lib.hid Q4; replace B4 := Lib.hid B4; replace PX := Lib.hid PX; replace FX := Lib.hid FX
      clear hw1
      dsimp only at hxw hxw'
      go_wp2_with fail
      refine wp_loop_rounds 2 ?_
      rw [rounds_succ]
      go_wp2_with fail
      rw [rounds_succ]
      go_wp2_with fail
      go_end0
      exact ⟨rfl, ⟨_, _, by rw [hD.out, List.append_nil, upd_self]; exact Q4.out⟩, B4.out⟩
end Go.Proofs.Ytjgmlnkbplgloaa
