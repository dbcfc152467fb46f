import Derived.Test.YtkkmjjddalpocaaDoorCop
import Derived.Test.YtkkmjjddalpocaaDoorRow
import Derived.Deep.RegionHeld3
import Derived.Deep.RegionLaw
namespace Go.Proofs.YtkkmjjddalpocaaDoor
open Go.RowKit
set_option linter.unusedVariables false
set_option linter.unusedSimpArgs false
set_option maxHeartbeats 2000000
set_option maxRecDepth 20000
structure PS where
  a : TS
  b : TS
  wa : List Ev
  wb : List Ev
def evCells (l : List Ev) : List Value := l.flatMap Ev.cells
abbrev TSides : TypeId := 65
abbrev TWays : TypeId := 66
/-- The memory of a play. -/
structure PM (base : Nat) (w : World) (bs bw b0 b1 : Nat) (p : PS) (v0 v1 : Value) (o0 o1 : Option Nat) : Prop where
  sides : Pt w bs TSides [.pointer (some ⟨b0, 0, none⟩), .pointer (some ⟨b1, 0, none⟩)]
  way : Pt w bw TWays [v0, v1]
  row0 : Row 6 w v0 p.wa.length (evCells p.wa) o0
  row1 : Row 6 w v1 p.wb.length (evCells p.wb) o1
  apart : ∀ x, o0 = some x → o1 ≠ some x
  new0 : ∀ x, o0 = some x → base ≤ x ∧ x ≠ bs ∧ x ≠ bw ∧ x ≠ b0 ∧ x ≠ b1
  new1 : ∀ x, o1 = some x → base ≤ x ∧ x ≠ bs ∧ x ≠ bw ∧ x ≠ b0 ∧ x ≠ b1
  sa : Pt w b0 TSide p.a.cells
  sb : Pt w b1 TSide p.b.cells
  ge : base ≤ bs ∧ base ≤ bw ∧ base ≤ b0 ∧ base ≤ b1
  ne : bs ≠ bw ∧ bs ≠ b0 ∧ bs ≠ b1 ∧ bw ≠ b0 ∧ bw ≠ b1 ∧ b0 ≠ b1
  inva : Inv p.a
  invb : Inv p.b
def downs (l : List Ev) : List Ev := l.filter fun e => e.way == 1
def meetP (p : PS) (i : Int) (e : Ev) : PS := if i = 0 then { p with a := (stepT p.a e).1, wb := p.wb ++ downs (stepT p.a e).2.1 } else { p with b := (stepT p.b e).1, wa := p.wa ++ downs (stepT p.b e).2.1 }
/-- append whose run is known, at a step of a region that draws. -/
theorem step_append_run {P : Program} {ops : Array Oper} {o : Oper} {a : Act} {w w' : World} {K : Act → World → Prop} {Q : Exit → Act → World → Prop} {E : Prop}
    (hg : o.guard = none) (s x : Operand) (t : TypeId) (hop : o.op = Op.call { callee := Callee.builtin Builtin.append, args := #[s, x], argTypes := #[t, t] })
    {v xv v' : Value} (hs : a.eval s = v) (hx : a.eval x = xv) (hrun : (Builtin.append_ #[t, t] o.type #[v, xv]).run P w = .ok v' w') (hK : K (a.put o.dst v') w') :
    if Region.wanted o (yielded ops a.tmps) = true then Oper.wp P o a w K Q else E := by
  have hw : Region.wanted o (yielded ops a.tmps) = true := by simp [Region.wanted, hg]
  rw [if_pos hw]
  unfold Oper.wp
  simp [execOp, hop, resolve, invoke, builtin, hs, hx, hrun, Result.andThen]
  exact hK
noncomputable def iEv : TypeInfo := (Tryd.prog.info? TEv).getD default
theorem infoEv : Tryd.prog.info? TEv = some iEv := by kernel_rfl
noncomputable def zEv : Value := iEv.zero.getD default
theorem uEvs' : Tryd.prog.underlying 22 = some (.slice TEv) := by kernel_rfl
theorem meet_0 (base : Nat) (e : Ev) (w : World) (bs bw b0 b1 : Nat) (p : PS) (v0 v1 : Value) (o0 o1 : Option Nat) (h : PM base w bs bw b0 b1 p v0 v1 o0 o1) (hT : Tab w) (hlen : p.wb.length < 1000000) :
    Calls Tryd.prog 37 #[.int .i64 0, e.val, .pointer (some ⟨bs, 0, none⟩), .pointer (some ⟨bw, 0, none⟩)] w fun r w' => r = .returned (.tuple #[]) ∧ (∃ v' o', PM base w' bs bw b0 b1 (meetP p 0 e) v0 v' o0 o') ∧ Below base w w' := by
  obtain ⟨hs, hw, hr0, hr1, hap, hn0, hn1, ha, hb, hge, hne, hia, hib⟩ := h
  have hE := Pt.newA w TEv e.cells.toArray
  obtain ⟨w1, hw1⟩ : ∃ x, w.alloc (.cells e.cells.toArray TEv) = x := ⟨_, rfl⟩
  have f1 : Fr [] w w1 := by rw [← hw1]; exact (Fr.refl [] w).alloc _
  rw [hw1] at hE
  obtain ⟨bx, hbx⟩ : ∃ x, w.heap.size = x := ⟨_, rfl⟩
  rw [hbx] at hE
  have hs1 := f1.pt hs (by simp)
  have hw1' := f1.pt hw (by simp)
  have ho1 := f1.pt ha (by simp)
  have hT1 := hT.fr f1 (by simp) hT.lt
  have hO := Lib.hid (on_step b0 p.a e w1.drew ho1.drew hT1 hia)
  have hbs := hs.lt
  have hS : ∀ w', Fr [b0] w1.drew w' → (w'.cell? ⟨bs, 0, none⟩ = some (.pointer (some ⟨b0, 0, none⟩)) ∧ w'.cell? ⟨bx, 0, none⟩ = some (.int .i64 e.way) ∧ w'.cell? ⟨bx, 1, none⟩ = some (.int .i64 e.kind) ∧ w'.cell? ⟨bx, 2, none⟩ = some (.int .i64 e.a) ∧ w'.cell? ⟨bx, 3, none⟩ = some (.int .i64 e.b) ∧ w'.cell? ⟨bx, 4, none⟩ = some (.int .i64 e.c) ∧ w'.cell? ⟨bx, 5, none⟩ = some (.string e.data)) := fun w' hf => by
    have c1 := (hf.pt hs1.drew (by simp; omega)).cell
    have c2 := (hf.pt hE.drew (by simp; have := ha.lt; omega)).cell
    refine ⟨c1 0, ?_, ?_, ?_, ?_, ?_, ?_⟩ <;> rw [c2] <;> rfl
  have hS0 := hS _ (Fr.refl _ _)
  obtain ⟨way, kind, ea, eb, ec, data⟩ := e
  dsimp only [Ev.val] at hO hS hS0 ⊢
  simp only [Ev.cells] at hw1
  replace hS := Lib.hid hS
  have hS00 := Lib.hid hS0
  clear hS0
  have hcs := hs1.cell
  replace hs := Lib.hid hs; replace hw := Lib.hid hw; replace hr0 := Lib.hid hr0; replace hr1 := Lib.hid hr1; replace hap := Lib.hid hap
  replace hn0 := Lib.hid hn0; replace hn1 := Lib.hid hn1; replace ha := Lib.hid ha; replace hb := Lib.hid hb; replace hne := Lib.hid hne
  replace hT := Lib.hid hT; replace hT1 := Lib.hid hT1; replace f1 := Lib.hid f1; replace hE := Lib.hid hE; replace hs1 := Lib.hid hs1; replace hw1' := Lib.hid hw1'; replace ho1 := Lib.hid ho1; replace hia := Lib.hid hia; replace hib := Lib.hid hib
  go_enter Tryd.func37, Tryd.ntmps37
  have h12 : (1 : Int) < 2 := by omega
  go_wp2_with fail
  go_region_held3 (fun w' => w'.cell? ⟨bs, 0, none⟩ = some (.pointer (some ⟨b0, 0, none⟩)) ∧ w'.cell? ⟨bx, 0, none⟩ = some (.int .i64 way) ∧ w'.cell? ⟨bx, 1, none⟩ = some (.int .i64 kind) ∧ w'.cell? ⟨bx, 2, none⟩ = some (.int .i64 ea) ∧ w'.cell? ⟨bx, 3, none⟩ = some (.int .i64 eb) ∧ w'.cell? ⟨bx, 4, none⟩ = some (.int .i64 ec) ∧ w'.cell? ⟨bx, 5, none⟩ = some (.string data))
    (first | exact hS00.out | exact hS.out _ f3.out) (first | (go_at_call 13; refine hO.out.mono ?_; rintro r w3 ⟨⟨v, rfl, hv⟩, p3, f3⟩; replace hv := Lib.hid hv; replace p3 := Lib.hid p3; replace f3 := Lib.hid f3))
  obtain ⟨R, hR⟩ : ∃ x, stepT p.a ⟨way, kind, ea, eb, ec, data⟩ = x := ⟨_, rfl⟩
  rw [hR] at hv p3 ⊢
  have hstep := Lib.hid (step_sim p.a ⟨way, kind, ea, eb, ec, data⟩ hia.out).2
  rw [hR] at hstep
  obtain ⟨s', L, cd⟩ := R
  dsimp only at hv p3 hstep ⊢
  have b0lt := ha.out.lt
  have bwlt := hw.out.lt
  have b1lt := hb.out.lt
  -- what the call of On left
  have F3 : Fr [b0] w w3 := ((f1.out.drew).mono (by simp)).trans f3.out
  have s3 := F3.pt hs.out (by have := hne.out; simp; omega)
  have m3 := F3.pt hw.out (by have := hne.out; simp; omega)
  have q3 := F3.pt hb.out (by have := hne.out; simp; omega)
  have r30 := hr0.out.fr F3 (fun x h => by have := hn0.out x h; simp; omega)
  have r31 := hr1.out.fr F3 (fun x h => by have := hn1.out x h; simp; omega)
  have hme : ∀ L' : List Ev, downs L = L' → meetP p 0 ⟨way, kind, ea, eb, ec, data⟩ = { p with a := s', wb := p.wb ++ L' } := fun L' h => by
    simp [meetP, hR, h]
  replace hme := Lib.hid hme
  replace F3 := Lib.hid F3; replace s3 := Lib.hid s3; replace m3 := Lib.hid m3; replace q3 := Lib.hid q3; replace r30 := Lib.hid r30; replace r31 := Lib.hid r31
  replace b0lt := Lib.hid b0lt; replace bwlt := Lib.hid bwlt; replace b1lt := Lib.hid b1lt; replace hge := Lib.hid hge; replace hbs := Lib.hid hbs
  clear hO hS hS00 hcs hR hs1 hw1' ho1 hE hT1
  rcases hv.out with ⟨rfl, rfl⟩ | ⟨B, x, rfl, rfl, hx, hB⟩
  · clear hw1
    go_wp2
    refine wp_loop_once ?_
    go_wp2
    go_end0
    refine ⟨rfl, ⟨v1, o1, ?_⟩, F3.out.below (by have := hge.out; have := hbs.out; omega) (by have := hge.out; simp; omega)⟩
    rw [hme.out [] rfl, List.append_nil]
    exact { sides := s3.out, way := m3.out, row0 := r30.out, row1 := r31.out, apart := hap.out, new0 := hn0.out, new1 := hn1.out, sa := p3.out, sb := q3.out, ge := hge.out, ne := hne.out, inva := hstep.out, invb := hib.out }
  · have hx' := Lib.hid hx
    obtain ⟨wx, hwx⟩ : ∃ y, w3.alloc (.cells x.cells.toArray TEv) = y := ⟨_, rfl⟩
    have PX := Pt.newA w3 TEv x.cells.toArray
    rw [hwx] at PX
    obtain ⟨bz, hbz⟩ : ∃ y, w3.heap.size = y := ⟨_, rfl⟩
    rw [hbz] at PX
    have FX : Fr [] w3 wx := by rw [← hwx]; exact (Fr.refl [] w3).alloc _
    have cx := hx.cell
    have cz := PX.cell
    by_cases hxw : (x.way == 1) = true
    · have hD : downs [x] = [x] := by simp [downs, hxw]
      have hev : (evCells p.wb ++ x.cells) = evCells (p.wb ++ [x]) := by simp [evCells]
      -- the block of the literal
      obtain ⟨wy, hwy⟩ : ∃ y, wx.drew.alloc (.cells x.cells.toArray TEv) = y := ⟨_, rfl⟩
      have PY := Pt.newA wx.drew TEv x.cells.toArray
      rw [hwy] at PY
      have FY : Fr [] wx wy := by rw [← hwy]; exact (Fr.refl [] wx).drew.alloc _
      have FXY := FX.trans FY
      have r41 := r31.out.fr FXY (by simp)
      have hsrc : Src Tryd.prog 6 22 (.slice (some ⟨wx.drew.heap.size, 0, none⟩) 1 1) 1 x.cells wy := Src.ofSlice wy uEvs' ⟨wx.drew.heap.size, 0, none⟩ 1 1 x.cells rfl (fun j u hu => by rw [Addr.add_lit, PY.cell, Nat.zero_add]; exact hu) (by intro u hu; simp [Ev.cells] at hu; rcases hu with rfl | rfl | rfl | rfl | rfl | rfl <;> rfl)
      obtain ⟨v', wz, o', hrun, rz, ho', fz⟩ := r41.append (t := 22) (ty := 22) (e := TEv) (i := iEv) (z := zEv) uEvs' infoEv (by kernel_rfl) (by kernel_rfl) (by omega) (by kernel_rfl) (of_decide_eq_true (by kernel_rfl)) hlen hsrc (by omega) (by omega)
      rw [hev] at rz
      obtain ⟨oo, cc, rfl⟩ := rz.len
      have bzlt : bz < wx.heap.size := PX.lt
      have bzy : wx.drew.heap.size < wy.heap.size := PY.lt
      -- the ways, before the store
      have notin : ∀ y, (∀ z, o1 = some z → z ≠ y) → y ∉ (o1).toList := fun y h hm => by
        rw [Option.mem_toList] at hm
        exact h y hm rfl
      have mz := fz.pt (FXY.pt m3.out (by simp)) (notin bw (fun z h => by have := hn1.out z h; omega))
      have sz := fz.pt (FXY.pt s3.out (by simp)) (notin bs (fun z h => by have := hn1.out z h; omega))
      have pz := fz.pt (FXY.pt p3.out (by simp)) (notin b0 (fun z h => by have := hn1.out z h; omega))
      have qz := fz.pt (FXY.pt q3.out (by simp)) (notin b1 (fun z h => by have := hn1.out z h; omega))
      have rkz := (r30.out.fr FXY (by simp)).fr fz (fun y hy => notin y (fun z hz e => by subst e; exact hap.out _ hy (by assumption)))
      have hm4 := (FX.pt m3.out (by simp)).drew.cell
      have hmy := (FXY.pt m3.out (by simp)).cell
      have FS := (Fr.refl [bw] wz).setCell (p := ⟨bw, 1, none⟩) (by simp) (.slice oo (p.wb.length + 1) cc)
      have pzlt := pz.lt
      obtain ⟨by_, hby⟩ : ∃ y, wx.heap.size = y := ⟨_, rfl⟩
      rw [show wx.drew.heap.size = by_ from hby] at hrun
      have cfz := mz.cell
      have ffz := mz.free
      have hwy' := hwy
      obtain ⟨xw, xk, xa, xb, xc, xd⟩ := x
      have h01 : (0 : Int) < 1 := by omega
      have hwr : IntKind.i64.wrap 1 = 1 := by decide
      have hwr0 : IntKind.i64.wrap 0 = 0 := by decide
      simp only [Ev.cells] at cx cz hwx hwy
      replace hx := Lib.hid hx; replace hx' := Lib.hid hx'; replace r41 := Lib.hid r41; replace rz := Lib.hid rz; replace mz := Lib.hid mz; replace sz := Lib.hid sz; replace pz := Lib.hid pz; replace qz := Lib.hid qz; replace rkz := Lib.hid rkz; replace FS := Lib.hid FS; replace PX := Lib.hid PX; replace PY := Lib.hid PY
      replace hrun := Lib.hid hrun; replace hsrc := Lib.hid hsrc; replace FX := Lib.hid FX; replace FY := Lib.hid FY; replace FXY := Lib.hid FXY; replace fz := Lib.hid fz; replace hwy' := Lib.hid hwy'; replace ho' := Lib.hid ho'; replace hD := Lib.hid hD; replace hev := Lib.hid hev
      clear notin hw1
      have FIN : (∃ v' o', PM base (wz.setCell ⟨bw, 1, none⟩ (.slice oo (p.wb.length + 1) cc)) bs bw b0 b1 (meetP p 0 ⟨way, kind, ea, eb, ec, data⟩) v0 v' o0 o') ∧ Below base w (wz.setCell ⟨bw, 1, none⟩ (.slice oo (p.wb.length + 1) cc)) := by
        have szy : w.heap.size ≤ wy.heap.size := Nat.le_trans F3.out.size FXY.out.size
        have hbwo : ∀ z, o' = some z → z ≠ bw ∧ base ≤ z ∧ z ≠ bs ∧ z ≠ b0 ∧ z ≠ b1 ∧ ∀ y, o0 = some y → y ≠ z := fun z hz => by
          rcases ho'.out with h | h
          · rw [h] at hz
            have := hn1.out z hz
            exact ⟨by omega, by omega, by omega, by omega, by omega, fun y hy e => by subst e; exact hap.out _ hy (by assumption)⟩
          · rw [h] at hz
            cases hz
            have h1 := bwlt.out; have h2 := hbs.out; have h3 := b0lt.out; have h4 := b1lt.out; have h5 := hge.out
            refine ⟨by omega, by omega, by omega, by omega, by omega, fun y hy e => ?_⟩
            subst hy
            have := hr0.out.lt
            omega
        refine ⟨⟨.slice oo (p.wb.length + 1) cc, o', ?_⟩, ?_⟩
        · rw [hme.out _ hD.out]
          exact { sides := FS.out.pt sz.out (by have := hne.out; simp; omega), way := mz.out.set' rfl, row0 := rkz.out.fr FS.out (fun x h => by have := hn0.out x h; simp; omega), row1 := rz.out.fr' (by simp [List.length_append]) FS.out (fun x h => by have := hbwo x h; simp; omega),
                  apart := fun x hq0 hq1 => (hbwo x hq1).2.2.2.2.2 x hq0 rfl, new0 := hn0.out, new1 := fun x h => by have := hbwo x h; omega, sa := FS.out.pt pz.out (by have := hne.out; simp; omega), sb := FS.out.pt qz.out (by have := hne.out; simp; omega), ge := hge.out, ne := hne.out, inva := hstep.out, invb := hib.out }
        · have h5 := hge.out
          have g1 : Fr (b0 :: bw :: (o1).toList) w w3 := F3.out.mono (by simp)
          have g2 : Fr (b0 :: bw :: (o1).toList) w wy := g1.trans (FXY.out.mono (by simp))
          have g3 : Fr (b0 :: bw :: (o1).toList) w wz := g2.trans (fz.out.mono (by intro x hx; simp [List.mem_cons, hx]))
          have g4 := g3.trans (FS.out.mono (by simp))
          refine g4.below (by have := hbs.out; omega) (fun x hx => ?_)
          simp only [List.mem_cons, Option.mem_toList] at hx
          rcases hx with rfl | rfl | hx
          · omega
          · omega
          · exact (hn1.out _ hx).1
      replace FIN := Lib.hid FIN
      go_wp2
      refine wp_loop_rounds 2 ?_
      rw [rounds_succ]
      go_wp2_with fail
      go_region_law (first | (refine step_append_run rfl _ _ _ rfl (v := v1) rfl (xv := .slice (some ⟨by_, 0, none⟩) 1 1) rfl hrun.out ?_))
      all_goals
        go_wp2_with fail
        rw [rounds_succ]
        go_wp2
        go_end0
        exact ⟨rfl, FIN.out⟩
    · have hD : downs [x] = [] := by simp [downs, hxw]
      have hxw' : (x.way == 1) = false := by simpa using hxw
      have h01 : (0 : Int) < 1 := by omega
      obtain ⟨xw, xk, xa, xb, xc, xd⟩ := x
      simp only [Ev.cells] at cx cz hwx
      replace hx := Lib.hid hx; replace hx' := Lib.hid hx'; replace PX := Lib.hid PX
      replace FX := Lib.hid FX; replace hD := Lib.hid hD
      clear hw1
      dsimp only at hxw hxw'
      go_wp2
      refine wp_loop_rounds 2 ?_
      rw [rounds_succ]
      go_wp2_with fail
      rw [rounds_succ]
      go_wp2
      go_end0
      refine ⟨rfl, ⟨v1, o1, ?_⟩, (F3.out.trans (FX.out.mono (by simp))).below (by have := hge.out; have := hbs.out; omega) (by have := hge.out; simp; omega)⟩
      rw [hme.out _ hD.out, List.append_nil]
      exact { sides := FX.out.pt s3.out (by simp), way := FX.out.pt m3.out (by simp), row0 := r30.out.fr FX.out (by simp), row1 := r31.out.fr FX.out (by simp), apart := hap.out, new0 := hn0.out, new1 := hn1.out, sa := FX.out.pt p3.out (by simp), sb := FX.out.pt q3.out (by simp), ge := hge.out, ne := hne.out, inva := hstep.out, invb := hib.out }
theorem meet_1 (base : Nat) (e : Ev) (w : World) (bs bw b0 b1 : Nat) (p : PS) (v0 v1 : Value) (o0 o1 : Option Nat) (h : PM base w bs bw b0 b1 p v0 v1 o0 o1) (hT : Tab w) (hlen : p.wa.length < 1000000) :
    Calls Tryd.prog 37 #[.int .i64 1, e.val, .pointer (some ⟨bs, 0, none⟩), .pointer (some ⟨bw, 0, none⟩)] w fun r w' => r = .returned (.tuple #[]) ∧ (∃ v' o', PM base w' bs bw b0 b1 (meetP p 1 e) v' v1 o' o1) ∧ Below base w w' := by
  obtain ⟨hs, hw, hr0, hr1, hap, hn0, hn1, ha, hb, hge, hne, hia, hib⟩ := h
  have hE := Pt.newA w TEv e.cells.toArray
  obtain ⟨w1, hw1⟩ : ∃ x, w.alloc (.cells e.cells.toArray TEv) = x := ⟨_, rfl⟩
  have f1 : Fr [] w w1 := by rw [← hw1]; exact (Fr.refl [] w).alloc _
  rw [hw1] at hE
  obtain ⟨bx, hbx⟩ : ∃ x, w.heap.size = x := ⟨_, rfl⟩
  rw [hbx] at hE
  have hs1 := f1.pt hs (by simp)
  have hw1' := f1.pt hw (by simp)
  have ho1 := f1.pt hb (by simp)
  have hT1 := hT.fr f1 (by simp) hT.lt
  have hO := Lib.hid (on_step b1 p.b e w1.drew ho1.drew hT1 hib)
  have hbs := hs.lt
  have hS : ∀ w', Fr [b1] w1.drew w' → (w'.cell? ⟨bs, 1, none⟩ = some (.pointer (some ⟨b1, 0, none⟩)) ∧ w'.cell? ⟨bx, 0, none⟩ = some (.int .i64 e.way) ∧ w'.cell? ⟨bx, 1, none⟩ = some (.int .i64 e.kind) ∧ w'.cell? ⟨bx, 2, none⟩ = some (.int .i64 e.a) ∧ w'.cell? ⟨bx, 3, none⟩ = some (.int .i64 e.b) ∧ w'.cell? ⟨bx, 4, none⟩ = some (.int .i64 e.c) ∧ w'.cell? ⟨bx, 5, none⟩ = some (.string e.data)) := fun w' hf => by
    have c1 := (hf.pt hs1.drew (by simp; omega)).cell
    have c2 := (hf.pt hE.drew (by simp; have := hb.lt; omega)).cell
    refine ⟨c1 1, ?_, ?_, ?_, ?_, ?_, ?_⟩ <;> rw [c2] <;> rfl
  have hS0 := hS _ (Fr.refl _ _)
  obtain ⟨way, kind, ea, eb, ec, data⟩ := e
  dsimp only [Ev.val] at hO hS hS0 ⊢
  simp only [Ev.cells] at hw1
  replace hS := Lib.hid hS
  have hS00 := Lib.hid hS0
  clear hS0
  have hcs := hs1.cell
  replace hs := Lib.hid hs; replace hw := Lib.hid hw; replace hr0 := Lib.hid hr0; replace hr1 := Lib.hid hr1; replace hap := Lib.hid hap
  replace hn0 := Lib.hid hn0; replace hn1 := Lib.hid hn1; replace ha := Lib.hid ha; replace hb := Lib.hid hb; replace hne := Lib.hid hne
  replace hT := Lib.hid hT; replace hT1 := Lib.hid hT1; replace f1 := Lib.hid f1; replace hE := Lib.hid hE; replace hs1 := Lib.hid hs1; replace hw1' := Lib.hid hw1'; replace ho1 := Lib.hid ho1; replace hia := Lib.hid hia; replace hib := Lib.hid hib
  go_enter Tryd.func37, Tryd.ntmps37
  have h12 : (1 : Int) < 2 := by omega
  go_wp2_with fail
  go_region_held3 (fun w' => w'.cell? ⟨bs, 1, none⟩ = some (.pointer (some ⟨b1, 0, none⟩)) ∧ w'.cell? ⟨bx, 0, none⟩ = some (.int .i64 way) ∧ w'.cell? ⟨bx, 1, none⟩ = some (.int .i64 kind) ∧ w'.cell? ⟨bx, 2, none⟩ = some (.int .i64 ea) ∧ w'.cell? ⟨bx, 3, none⟩ = some (.int .i64 eb) ∧ w'.cell? ⟨bx, 4, none⟩ = some (.int .i64 ec) ∧ w'.cell? ⟨bx, 5, none⟩ = some (.string data))
    (first | exact hS00.out | exact hS.out _ f3.out) (first | (go_at_call 13; refine hO.out.mono ?_; rintro r w3 ⟨⟨v, rfl, hv⟩, p3, f3⟩; replace hv := Lib.hid hv; replace p3 := Lib.hid p3; replace f3 := Lib.hid f3))
  obtain ⟨R, hR⟩ : ∃ x, stepT p.b ⟨way, kind, ea, eb, ec, data⟩ = x := ⟨_, rfl⟩
  rw [hR] at hv p3 ⊢
  have hstep := Lib.hid (step_sim p.b ⟨way, kind, ea, eb, ec, data⟩ hib.out).2
  rw [hR] at hstep
  obtain ⟨s', L, cd⟩ := R
  dsimp only at hv p3 hstep ⊢
  have b0lt := ha.out.lt
  have bwlt := hw.out.lt
  have b1lt := hb.out.lt
  -- what the call of On left
  have F3 : Fr [b1] w w3 := ((f1.out.drew).mono (by simp)).trans f3.out
  have s3 := F3.pt hs.out (by have := hne.out; simp; omega)
  have m3 := F3.pt hw.out (by have := hne.out; simp; omega)
  have q3 := F3.pt ha.out (by have := hne.out; simp; omega)
  have r30 := hr0.out.fr F3 (fun x h => by have := hn0.out x h; simp; omega)
  have r31 := hr1.out.fr F3 (fun x h => by have := hn1.out x h; simp; omega)
  have hme : ∀ L' : List Ev, downs L = L' → meetP p 1 ⟨way, kind, ea, eb, ec, data⟩ = { p with b := s', wa := p.wa ++ L' } := fun L' h => by
    simp [meetP, hR, h]
  replace hme := Lib.hid hme
  replace F3 := Lib.hid F3; replace s3 := Lib.hid s3; replace m3 := Lib.hid m3; replace q3 := Lib.hid q3; replace r30 := Lib.hid r30; replace r31 := Lib.hid r31
  replace b0lt := Lib.hid b0lt; replace bwlt := Lib.hid bwlt; replace b1lt := Lib.hid b1lt; replace hge := Lib.hid hge; replace hbs := Lib.hid hbs
  clear hO hS hS00 hcs hR hs1 hw1' ho1 hE hT1
  rcases hv.out with ⟨rfl, rfl⟩ | ⟨B, x, rfl, rfl, hx, hB⟩
  · clear hw1
    go_wp2
    refine wp_loop_once ?_
    go_wp2
    go_end0
    refine ⟨rfl, ⟨v0, o0, ?_⟩, F3.out.below (by have := hge.out; have := hbs.out; omega) (by have := hge.out; simp; omega)⟩
    rw [hme.out [] rfl, List.append_nil]
    exact { sides := s3.out, way := m3.out, row0 := r30.out, row1 := r31.out, apart := hap.out, new0 := hn0.out, new1 := hn1.out, sb := p3.out, sa := q3.out, ge := hge.out, ne := hne.out, invb := hstep.out, inva := hia.out }
  · have hx' := Lib.hid hx
    obtain ⟨wx, hwx⟩ : ∃ y, w3.alloc (.cells x.cells.toArray TEv) = y := ⟨_, rfl⟩
    have PX := Pt.newA w3 TEv x.cells.toArray
    rw [hwx] at PX
    obtain ⟨bz, hbz⟩ : ∃ y, w3.heap.size = y := ⟨_, rfl⟩
    rw [hbz] at PX
    have FX : Fr [] w3 wx := by rw [← hwx]; exact (Fr.refl [] w3).alloc _
    have cx := hx.cell
    have cz := PX.cell
    by_cases hxw : (x.way == 1) = true
    · have hD : downs [x] = [x] := by simp [downs, hxw]
      have hev : (evCells p.wa ++ x.cells) = evCells (p.wa ++ [x]) := by simp [evCells]
      -- the block of the literal
      obtain ⟨wy, hwy⟩ : ∃ y, wx.drew.alloc (.cells x.cells.toArray TEv) = y := ⟨_, rfl⟩
      have PY := Pt.newA wx.drew TEv x.cells.toArray
      rw [hwy] at PY
      have FY : Fr [] wx wy := by rw [← hwy]; exact (Fr.refl [] wx).drew.alloc _
      have FXY := FX.trans FY
      have r41 := r30.out.fr FXY (by simp)
      have hsrc : Src Tryd.prog 6 22 (.slice (some ⟨wx.drew.heap.size, 0, none⟩) 1 1) 1 x.cells wy := Src.ofSlice wy uEvs' ⟨wx.drew.heap.size, 0, none⟩ 1 1 x.cells rfl (fun j u hu => by rw [Addr.add_lit, PY.cell, Nat.zero_add]; exact hu) (by intro u hu; simp [Ev.cells] at hu; rcases hu with rfl | rfl | rfl | rfl | rfl | rfl <;> rfl)
      obtain ⟨v', wz, o', hrun, rz, ho', fz⟩ := r41.append (t := 22) (ty := 22) (e := TEv) (i := iEv) (z := zEv) uEvs' infoEv (by kernel_rfl) (by kernel_rfl) (by omega) (by kernel_rfl) (of_decide_eq_true (by kernel_rfl)) hlen hsrc (by omega) (by omega)
      rw [hev] at rz
      obtain ⟨oo, cc, rfl⟩ := rz.len
      have bzlt : bz < wx.heap.size := PX.lt
      have bzy : wx.drew.heap.size < wy.heap.size := PY.lt
      -- the ways, before the store
      have notin : ∀ y, (∀ z, o0 = some z → z ≠ y) → y ∉ (o0).toList := fun y h hm => by
        rw [Option.mem_toList] at hm
        exact h y hm rfl
      have mz := fz.pt (FXY.pt m3.out (by simp)) (notin bw (fun z h => by have := hn0.out z h; omega))
      have sz := fz.pt (FXY.pt s3.out (by simp)) (notin bs (fun z h => by have := hn0.out z h; omega))
      have pz := fz.pt (FXY.pt p3.out (by simp)) (notin b1 (fun z h => by have := hn0.out z h; omega))
      have qz := fz.pt (FXY.pt q3.out (by simp)) (notin b0 (fun z h => by have := hn0.out z h; omega))
      have rkz := (r31.out.fr FXY (by simp)).fr fz (fun y hy => notin y (fun z hz e => by subst e; exact hap.out _ (by assumption) hy))
      have hm4 := (FX.pt m3.out (by simp)).drew.cell
      have hmy := (FXY.pt m3.out (by simp)).cell
      have FS := (Fr.refl [bw] wz).setCell (p := ⟨bw, 0, none⟩) (by simp) (.slice oo (p.wa.length + 1) cc)
      have pzlt := pz.lt
      obtain ⟨by_, hby⟩ : ∃ y, wx.heap.size = y := ⟨_, rfl⟩
      rw [show wx.drew.heap.size = by_ from hby] at hrun
      have cfz := mz.cell
      have ffz := mz.free
      have hwy' := hwy
      obtain ⟨xw, xk, xa, xb, xc, xd⟩ := x
      have h01 : (0 : Int) < 1 := by omega
      have hwr : IntKind.i64.wrap 1 = 1 := by decide
      have hwr0 : IntKind.i64.wrap 0 = 0 := by decide
      simp only [Ev.cells] at cx cz hwx hwy
      replace hx := Lib.hid hx; replace hx' := Lib.hid hx'; replace r41 := Lib.hid r41; replace rz := Lib.hid rz; replace mz := Lib.hid mz; replace sz := Lib.hid sz; replace pz := Lib.hid pz; replace qz := Lib.hid qz; replace rkz := Lib.hid rkz; replace FS := Lib.hid FS; replace PX := Lib.hid PX; replace PY := Lib.hid PY
      replace hrun := Lib.hid hrun; replace hsrc := Lib.hid hsrc; replace FX := Lib.hid FX; replace FY := Lib.hid FY; replace FXY := Lib.hid FXY; replace fz := Lib.hid fz; replace hwy' := Lib.hid hwy'; replace ho' := Lib.hid ho'; replace hD := Lib.hid hD; replace hev := Lib.hid hev
      clear notin hw1
      have FIN : (∃ v' o', PM base (wz.setCell ⟨bw, 0, none⟩ (.slice oo (p.wa.length + 1) cc)) bs bw b0 b1 (meetP p 1 ⟨way, kind, ea, eb, ec, data⟩) v' v1 o' o1) ∧ Below base w (wz.setCell ⟨bw, 0, none⟩ (.slice oo (p.wa.length + 1) cc)) := by
        have szy : w.heap.size ≤ wy.heap.size := Nat.le_trans F3.out.size FXY.out.size
        have hbwo : ∀ z, o' = some z → z ≠ bw ∧ base ≤ z ∧ z ≠ bs ∧ z ≠ b0 ∧ z ≠ b1 ∧ ∀ y, o1 = some y → y ≠ z := fun z hz => by
          rcases ho'.out with h | h
          · rw [h] at hz
            have := hn0.out z hz
            exact ⟨by omega, by omega, by omega, by omega, by omega, fun y hy e => by subst e; exact hap.out _ (by assumption) hy⟩
          · rw [h] at hz
            cases hz
            have h1 := bwlt.out; have h2 := hbs.out; have h3 := b0lt.out; have h4 := b1lt.out; have h5 := hge.out
            refine ⟨by omega, by omega, by omega, by omega, by omega, fun y hy e => ?_⟩
            subst hy
            have := hr1.out.lt
            omega
        refine ⟨⟨.slice oo (p.wa.length + 1) cc, o', ?_⟩, ?_⟩
        · rw [hme.out _ hD.out]
          exact { sides := FS.out.pt sz.out (by have := hne.out; simp; omega), way := mz.out.set' rfl, row1 := rkz.out.fr FS.out (fun x h => by have := hn1.out x h; simp; omega), row0 := rz.out.fr' (by simp [List.length_append]) FS.out (fun x h => by have := hbwo x h; simp; omega),
                  apart := fun x hq0 hq1 => (hbwo x hq0).2.2.2.2.2 x hq1 rfl, new1 := hn1.out, new0 := fun x h => by have := hbwo x h; omega, sb := FS.out.pt pz.out (by have := hne.out; simp; omega), sa := FS.out.pt qz.out (by have := hne.out; simp; omega), ge := hge.out, ne := hne.out, invb := hstep.out, inva := hia.out }
        · have h5 := hge.out
          have g1 : Fr (b1 :: bw :: (o0).toList) w w3 := F3.out.mono (by simp)
          have g2 : Fr (b1 :: bw :: (o0).toList) w wy := g1.trans (FXY.out.mono (by simp))
          have g3 : Fr (b1 :: bw :: (o0).toList) w wz := g2.trans (fz.out.mono (by intro x hx; simp [List.mem_cons, hx]))
          have g4 := g3.trans (FS.out.mono (by simp))
          refine g4.below (by have := hbs.out; omega) (fun x hx => ?_)
          simp only [List.mem_cons, Option.mem_toList] at hx
          rcases hx with rfl | rfl | hx
          · omega
          · omega
          · exact (hn0.out _ hx).1
      replace FIN := Lib.hid FIN
      go_wp2
      refine wp_loop_rounds 2 ?_
      rw [rounds_succ]
      go_wp2_with fail
      go_region_law (first | (refine step_append_run rfl _ _ _ rfl (v := v0) rfl (xv := .slice (some ⟨by_, 0, none⟩) 1 1) rfl hrun.out ?_))
      all_goals
        go_wp2_with fail
        rw [rounds_succ]
        go_wp2
        go_end0
        exact ⟨rfl, FIN.out⟩
    · have hD : downs [x] = [] := by simp [downs, hxw]
      have hxw' : (x.way == 1) = false := by simpa using hxw
      have h01 : (0 : Int) < 1 := by omega
      obtain ⟨xw, xk, xa, xb, xc, xd⟩ := x
      simp only [Ev.cells] at cx cz hwx
      replace hx := Lib.hid hx; replace hx' := Lib.hid hx'; replace PX := Lib.hid PX
      replace FX := Lib.hid FX; replace hD := Lib.hid hD
      clear hw1
      dsimp only at hxw hxw'
      go_wp2
      refine wp_loop_rounds 2 ?_
      rw [rounds_succ]
      go_wp2_with fail
      rw [rounds_succ]
      go_wp2
      go_end0
      refine ⟨rfl, ⟨v0, o0, ?_⟩, (F3.out.trans (FX.out.mono (by simp))).below (by have := hge.out; have := hbs.out; omega) (by have := hge.out; simp; omega)⟩
      rw [hme.out _ hD.out, List.append_nil]
      exact { sides := FX.out.pt s3.out (by simp), way := FX.out.pt m3.out (by simp), row0 := r30.out.fr FX.out (by simp), row1 := r31.out.fr FX.out (by simp), apart := hap.out, new0 := hn0.out, new1 := hn1.out, sb := FX.out.pt p3.out (by simp), sa := FX.out.pt q3.out (by simp), ge := hge.out, ne := hne.out, invb := hstep.out, inva := hia.out }
end Go.Proofs.YtkkmjjddalpocaaDoor
