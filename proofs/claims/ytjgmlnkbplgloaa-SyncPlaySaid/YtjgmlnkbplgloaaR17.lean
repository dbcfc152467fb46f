import Derived.Test.YtjgmlnkbplgloaaR16
import Derived.Test.YtjgmlnkbplgloaaQ8
namespace Go.Proofs.Ytjgmlnkbplgloaa
open Go.RowKit
set_option linter.unusedVariables false
set_option linter.unusedSimpArgs false
set_option maxHeartbeats 8000000
set_option maxRecDepth 20000
/-- A side of the pair meets an event. -/
def ActR (base : Nat) (bp : Nat) (bb : Bool → Nat) (rs : Bool → RS) (sd : Bool → SS) (q : Bool → List Ev) (j : Bool) (e : Ev) (w : World) (r : Ending) (w' : World) : Prop :=
  r = .returned (.tuple #[]) ∧ (∃ r' v' o' ro' rt' lab', Sim r' (mtS sd j e j) ∧ RQ base w' bp bb (upd rs j r') (mtQ sd q j e) v' o' ro' rt' lab') ∧ Below base w w'
theorem ract_any (base : Nat) (w : World) (bp : Nat) (bb : Bool → Nat) (rs : Bool → RS) (sd : Bool → SS) (q : Bool → List Ev) (vv : Bool → Value) (o ro rt : Bool → Option Nat) (lab : Nat → Nat) (j : Bool) (e : Ev) (n : Int) (hn : n = (j.toNat : Int)) (h : RQ base w bp bb rs q vv o ro rt lab)
    (hs : Sim (rs j) (sd j)) (hv : SV (sd j)) (hI : SI (sd j)) (hlen : (q (!j)).length < 1000000) :
    Calls Try.prog 54 #[.pointer (some ⟨bp, 0, none⟩), .int .i64 n, e.val] w (ActR base bp bb rs sd q j e w) := by
  subst hn
  obtain ⟨w1, hw1⟩ : ∃ x, w.alloc (.cells e.cells.toArray TEv) = x := ⟨_, rfl⟩
  have hE := Pt.newA w TEv e.cells.toArray
  have f1 : Fr [] w w1 := by rw [← hw1]; exact (Fr.refl [] w).alloc _
  rw [hw1] at hE
  obtain ⟨be, hbe⟩ : ∃ x, w.heap.size = x := ⟨_, rfl⟩
  rw [hbe] at hE
  have Q1 := h.fr0 f1
  have hbl := h.plt
  obtain ⟨bj, hbj⟩ : ∃ n, bb j = n := ⟨_, rfl⟩
  have hexl : ∀ x ∈ bj :: ((ro j).toList ++ (rt j).toList), x < be ∧ x ≠ bp := fun x hx => by
    have tj := tn_lt j
    simp only [List.mem_cons, List.mem_append, Option.mem_toList] at hx
    rcases hx with h1 | h1 | h1
    · rw [← hbj] at h1; subst h1
      refine ⟨by rw [← hbe]; exact h.blt j, fun e2 => ?_⟩
      have h2 := h.lb j; rw [e2] at h2; have := h.l0; omega
    · refine ⟨by rw [← hbe]; exact (h.rlt j).1 x h1, fun e2 => ?_⟩
      subst e2; have := h.lr j _ h1; have := h.l0; omega
    · refine ⟨by rw [← hbe]; exact (h.rlt j).2 x h1, fun e2 => ?_⟩
      subst e2; have := h.lt j _ h1; have := h.l0; omega
  obtain ⟨nj, hnj⟩ : ∃ n, j.toNat = n := ⟨_, rfl⟩
  obtain ⟨nk, hnk⟩ : ∃ n, (!j).toNat = n := ⟨_, rfl⟩
  have hnj2 : (nj : Int) < 2 := by rw [← hnj]; cases j <;> decide
  have hnk2 : (nk : Int) < 2 := by rw [← hnk]; cases j <;> decide
  have hsub : (1 : Int) - (nj : Int) = nk := by rw [← hnj, ← hnk]; cases j <;> rfl
  rw [hnj]
  have hON := Lib.hid (ron_any bj (rs j) (sd j) (ro j) (rt j) e w1.drew (by rw [← hbj]; exact (Q1.fr0 (Fr.refl [] w1).drew).rm j) hs hv hI)
  have hS : ∀ w', Fr (bj :: ((ro j).toList ++ (rt j).toList)) w1.drew w' → (w'.cell? ⟨bp, nj, none⟩ = some (.pointer (some ⟨bj, 0, none⟩)) ∧ w'.cell? ⟨be, 0, none⟩ = some (.int .i64 e.way) ∧ w'.cell? ⟨be, 1, none⟩ = some (.int .i64 e.kind) ∧ w'.cell? ⟨be, 2, none⟩ = some (.int .i64 e.a) ∧ w'.cell? ⟨be, 3, none⟩ = some (.int .i64 e.b) ∧ w'.cell? ⟨be, 4, none⟩ = some (.int .i64 e.c) ∧ w'.cell? ⟨be, 5, none⟩ = some (.string e.data)) := fun w' hf => by
    have c1 := (hf.pt Q1.pair.drew (fun hm => (hexl _ hm).2 rfl)).cell
    have c2 := (hf.pt hE.drew (fun hm => by have := (hexl _ hm).1; omega)).cell
    refine ⟨?_, ?_, ?_, ?_, ?_, ?_, ?_⟩
    · rw [c1, ← hnj, ← hbj]; cases j <;> rfl
    all_goals (rw [c2]; rfl)
  have hS00 := Lib.hid (hS _ (Fr.refl _ _))
  obtain ⟨R, hR⟩ : ∃ x, onS (sd j) e = x := ⟨_, rfl⟩
  have hone := on_one (sd j) e
  have hmS : mtS sd j e j = R.1 := by unfold mtS; rw [upd_same, hR]
  have hmQ : mtQ sd q j e = upd q (!j) (q (!j) ++ downs R.2.1) := by unfold mtQ; rw [hR]
  rw [hR] at hON hone
  obtain ⟨s', L, cd⟩ := R
  dsimp only at hON hone hmS hmQ
  unfold ActR
  rw [hmS, hmQ]
  obtain ⟨way, kind, ea, eb, ec, ed⟩ := e
  dsimp only [Ev.val] at hON hS hS00 ⊢
  simp only [Ev.cells] at hw1
  replace hS := Lib.hid hS; replace hE := Lib.hid hE; replace Q1 := Lib.hid Q1; replace h := Lib.hid h; replace hR := Lib.hid hR; replace hone := Lib.hid hone; replace f1 := Lib.hid f1; replace hI := Lib.hid hI; replace hs := Lib.hid hs; replace hv := Lib.hid hv; replace hexl := Lib.hid hexl
  replace hnj := Lib.hid hnj; replace hnk := Lib.hid hnk; replace hbj := Lib.hid hbj; replace hmS := Lib.hid hmS; replace hmQ := Lib.hid hmQ
  go_enter Try.func54, Try.ntmps54
  go_wp2_with fail
  go_region_held3 (fun w' => w'.cell? ⟨bp, nj, none⟩ = some (.pointer (some ⟨bj, 0, none⟩)) ∧ w'.cell? ⟨be, 0, none⟩ = some (.int .i64 way) ∧ w'.cell? ⟨be, 1, none⟩ = some (.int .i64 kind) ∧ w'.cell? ⟨be, 2, none⟩ = some (.int .i64 ea) ∧ w'.cell? ⟨be, 3, none⟩ = some (.int .i64 eb) ∧ w'.cell? ⟨be, 4, none⟩ = some (.int .i64 ec) ∧ w'.cell? ⟨be, 5, none⟩ = some (.string ed))
    (first | exact hS00.out | exact hS.out _ RN3.out.2) (first | (go_at_call 17; refine hON.out.mono ?_; rintro r w3 ⟨r', SI3, ⟨v, rfl, hv3⟩, RN3⟩; replace hv3 := Lib.hid hv3; replace SI3 := Lib.hid SI3; replace RN3 := Lib.hid RN3))
  have RN4 : RN (bb j) (ro j) (rt j) w r' w3 := by
    rw [hbj.out]
    exact RN3.out.after (((f1.out.mono (by simp) : Fr [bj] w w1)).drew)
  obtain ⟨⟨ro', rt', lab', Q3⟩, B3⟩ := h.out.on j RN4
  replace RN4 := Lib.hid RN4
  clear hON hS hS00
  rcases hv3.out with ⟨rfl, rfl⟩ | ⟨B, x, rfl, rfl, hx, hBB⟩
  · replace Q3 := Lib.hid Q3; replace B3 := Lib.hid B3
    clear hw1
    go_wp2_with fail
    refine wp_loop_once ?_
    go_wp2_with fail
    go_end0
    exact ⟨rfl, ⟨r', _, _, _, _, _, SI3.out, by rw [show downs [] = [] from rfl, List.append_nil, upd_self]; exact Q3.out⟩, B3.out⟩
  · have cx := hx.cell
    by_cases hxw : (x.way == 1) = true
    · have hD : downs [x] = [x] := by simp [downs, hxw]
      obtain ⟨wy, hwy⟩ : ∃ y, w3.drew.alloc (.cells x.cells.toArray TEv) = y := ⟨_, rfl⟩
      have PY := Pt.newA w3.drew TEv x.cells.toArray
      rw [hwy] at PY
      have FY : Fr [] w3 wy := by rw [← hwy]; exact (Fr.refl [] w3).drew.alloc _
      have hsrc : Src Try.prog 6 27 (.slice (some ⟨w3.drew.heap.size, 0, none⟩) 1 1) 1 x.cells wy := Src.ofSlice wy uEvs' ⟨w3.drew.heap.size, 0, none⟩ 1 1 x.cells rfl (fun j u hu => by rw [Addr.add_lit, PY.cell, Nat.zero_add]; exact hu) (by intro u hu; simp [Ev.cells] at hu; rcases hu with rfl | rfl | rfl | rfl | rfl | rfl <;> rfl)
      obtain ⟨oo, cc, wz, o4, lab4, hrun, fz, PWZ, QZ, BZ⟩ := (Q3.fr0 FY).push (!j) x hlen hsrc
      have hm4 : w3.drew.cell? ⟨bp, 2 + nk, none⟩ = some (vv (!j)) := by rw [Q3.pair.drew.cell, ← hnk.out]; exact pair4_get _ _ vv (!j)
      have hmy : wy.cell? ⟨bp, 2 + nk, none⟩ = some (vv (!j)) := by rw [(FY.pt Q3.pair (by simp)).cell, ← hnk.out]; exact pair4_get _ _ vv (!j)
      have ffz := PWZ.free
      have cfk : wz.cell? ⟨bp, 2 + nk, none⟩ = some (vv (!j)) := by rw [PWZ.cell, ← hnk.out]; exact pair4_get _ _ vv (!j)
      obtain ⟨by_, hby⟩ : ∃ y, w3.heap.size = y := ⟨_, rfl⟩
      rw [show w3.drew.heap.size = by_ from hby] at hrun
      rw [hnk.out] at QZ BZ
      have B4 := B3.trans ((FY.below (n := base) (by have := h.out.gp; have := Q3.plt; omega) (by simp)).trans BZ)
      obtain ⟨xw, xk, xa, xb, xc, xd⟩ := x
      have h01 : (0 : Int) < 1 := by omega
      have hwr : IntKind.i64.wrap 1 = 1 := by decide
      have hwr0 : IntKind.i64.wrap 0 = 0 := by decide
      have hnkw : IntKind.i64.wrap (nk : Int) = nk := by rw [IntKind.wrap_i64]; omega
      have hsubw : IntKind.i64.wrap (1 - (nj : Int)) = nk := by rw [hsub]; exact hnkw
      have hnk0 : (0 : Int) ≤ (nk : Int) := by omega
      simp only [Ev.cells] at cx hwy
      obtain ⟨vk, hvk⟩ : ∃ y, vv (!j) = y := ⟨_, rfl⟩
      rw [hvk] at hrun hm4 hmy cfk
      obtain ⟨nl, hnl⟩ : ∃ y, (q (!j)).length + 1 = y := ⟨_, rfl⟩
      rw [hnl] at hrun QZ B4
      replace Q3 := Lib.hid Q3; replace B3 := Lib.hid B3; replace hx := Lib.hid hx; replace PY := Lib.hid PY; replace FY := Lib.hid FY; replace hsrc := Lib.hid hsrc; replace hrun := Lib.hid hrun; replace fz := Lib.hid fz; replace PWZ := Lib.hid PWZ; replace QZ := Lib.hid QZ; replace B4 := Lib.hid B4; replace BZ := Lib.hid BZ; replace hD := Lib.hid hD; replace hvk := Lib.hid hvk; replace hnl := Lib.hid hnl
      clear hw1
      dsimp only at hxw
      go_wp2_with fail
      refine wp_loop_rounds 2 ?_
      rw [rounds_succ]
      go_wp2_with fail
      go_region_law (first | (refine step_append_run rfl _ _ _ rfl (v := vk) rfl (xv := .slice (some ⟨by_, 0, none⟩) 1 1) rfl hrun.out ?_))
      all_goals
        go_wp2_with fail
        rw [rounds_succ]
        go_wp2_with fail
        go_end0
        exact ⟨rfl, ⟨r', _, _, _, _, _, SI3.out, by rw [hD.out]; exact QZ.out⟩, B4.out⟩
    · have hD : downs [x] = [] := by simp [downs, hxw]
      have hxw' : (x.way == 1) = false := by simpa using hxw
      have h01 : (0 : Int) < 1 := by omega
      obtain ⟨xw, xk, xa, xb, xc, xd⟩ := x
      simp only [Ev.cells] at cx
      replace Q3 := Lib.hid Q3; replace B3 := Lib.hid B3; replace hx := Lib.hid hx; replace hD := Lib.hid hD
      clear hw1
      dsimp only at hxw hxw'
      go_wp2_with fail
      refine wp_loop_rounds 2 ?_
      rw [rounds_succ]
      go_wp2_with fail
      rw [rounds_succ]
      go_wp2_with fail
      go_end0
      exact ⟨rfl, ⟨r', _, _, _, _, _, SI3.out, by rw [hD.out, List.append_nil, upd_self]; exact Q3.out⟩, B3.out⟩
end Go.Proofs.Ytjgmlnkbplgloaa
