import Derived.Test.YtnggimkkjdipmaaTM4
import Derived.Test.YtnggimkkjdipmaaTM2
namespace Go.Proofs.Ytnggimkkjdipmaa
open Go.RowKit
set_option linter.unusedVariables false
set_option linter.unusedSimpArgs false
set_option maxHeartbeats 16000000
set_option maxRecDepth 100000
theorem wrap_def (x : Int) : IntKind.i64.wrap x = (x + 9223372036854775808) % 18446744073709551616 - 9223372036854775808 := by
  rw [IntKind.wrap_i64]
theorem wrap_range (x : Int) : -9223372036854775808 ≤ IntKind.i64.wrap x ∧ IntKind.i64.wrap x ≤ 9223372036854775807 := by
  rw [wrap_def]; omega
/-- n, counted down m times. -/
def nv (n : Int) (m : Nat) : Int := IntKind.i64.wrap (n - m)
theorem nv_zero {n : Int} (h : -9223372036854775808 ≤ n ∧ n ≤ 9223372036854775807) : nv n 0 = n := by
  unfold nv; rw [wrap_def]; omega
theorem nv_succ (n : Int) (m : Nat) : IntKind.i64.wrap (nv n m - 1) = nv n (m + 1) := by
  unfold nv; rw [wrap_def, wrap_def, wrap_def]; omega
theorem nv_eq {n : Int} (h : -9223372036854775808 ≤ n ∧ n ≤ 9223372036854775807) (m : Nat) (hm : m ≤ 100000) : nv n m = 0 ↔ n = m := by
  unfold nv; rw [wrap_def]; omega
def goM (n : Int) (m : Nat) : Bool := !(decide (0 ≤ n) && decide (n < (m : Int) + 1))
def fdM (n : Int) (m : Nat) : Bool := decide (0 ≤ n) && decide (n < (m : Int))
def OutM (T : Tb) (n : Int) (m : Nat) (B : Nat) (W : World) (bu : Nat) : Prop :=
  (fdM n m = false ∧ Pt W bu TTab [.int .i64 0, .int .i64 0, .int .i64 0, .slice none 0 0]) ∨
  (fdM n m = true ∧ ∃ x rv us bo bs, (mutL T)[n.toNat]? = some x ∧ Pt W bu TTab [.int .i64 T.st, .int .i64 T.ev, .int .i64 T.sr, rv] ∧ ORows (fun b => B ≤ b) W rv (T.chg x).rows us bo bs)
structure MuJ (T : Tb) (r : Value) (n : Int) (B bn bt bu bf : Nat) (m : Nat) (W : World) : Prop where
  pn : Pt W bn 3 [.int .i64 (nv n m)]
  pt : Pt W bt TTab [.int .i64 T.st, .int .i64 T.ev, .int .i64 T.sr, r]
  pf : Pt W bf 4 [.bool (fdM n m)]
  po : OutM T n m B W bu
theorem MuJ.fr {T : Tb} {r : Value} {n : Int} {B bn bt bu bf m : Nat} {W W' : World} (h : MuJ T r n B bn bt bu bf m W) (f : Fr [] W W') : MuJ T r n B bn bt bu bf m W' :=
  ⟨f.pt h.pn (by simp), f.pt h.pt (by simp), f.pt h.pf (by simp), by
    rcases h.po with ⟨h1, h2⟩ | ⟨h1, x, rv, us, bo, bs, h2, h3, h4⟩
    · exact .inl ⟨h1, f.pt h2 (by simp)⟩
    · exact .inr ⟨h1, x, rv, us, bo, bs, h2, f.pt h3 (by simp), h4.fr f (by simp)⟩⟩
theorem chg_rows {T : Tb} {x : Mut} (s e : Nat) (hs : x.1 = (s : Int)) (he : x.2.1 = (e : Int)) (h : s < T.rows.length) : (T.chg x).rows = T.rows.set s ((T.rows[s]).set e x.2.2) := by
  unfold Tb.chg
  rw [hs, he, List.getD_eq_getElem?_getD, Int.toNat_natCast, Int.toNat_natCast, List.getElem?_eq_getElem h]; rfl
theorem mut1_any (T : Tb) (r : Value) (n : Int) (hn : -9223372036854775808 ≤ n ∧ n ≤ 9223372036854775807) (hV : VT T) (B bn bt bu bf m : Nat) (hm : m ≤ 100000) (hd : bn ≠ bt ∧ bn ≠ bu ∧ bn ≠ bf ∧ bt ≠ bu ∧ bt ≠ bf ∧ bu ≠ bf) (hB : bn < B ∧ bt < B ∧ bu < B ∧ bf < B) (x : Mut) (hx : (mutL T)[m]? = some x) (W : World) (hJ : MuJ T r n B bn bt bu bf m W) (hR : RIn W r T.rows) (hBW : B ≤ W.heap.size) :
    Calls Try.prog 71 (#[.int .i64 x.1, .int .i64 x.2.1, .agg #[.int .i64 x.2.2.1, .int .i64 x.2.2.2]] ++ #[.pointer (some ⟨bn, 0, none⟩), .pointer (some ⟨bt, 0, none⟩), .pointer (some ⟨bu, 0, none⟩), .pointer (some ⟨bf, 0, none⟩)]) W fun e W' => e = .returned (.bool (goM n m)) ∧ MuJ T r n B bn bt bu bf (m + 1) W' ∧ Fr [bn, bu, bf] W W' := by
  obtain ⟨d1, d2, d3, d4, d5, d6⟩ := hd
  obtain ⟨g1, g2, g3, g4⟩ := hB
  have hok := mutL_ok hV x (List.mem_of_getElem? hx)
  obtain ⟨o1, o2, o3, o4, o5, o6, o7, o8⟩ := hok
  obtain ⟨s, hs⟩ : ∃ s : Nat, x.1 = (s : Int) := ⟨x.1.toNat, by omega⟩
  obtain ⟨e, he⟩ : ∃ e : Nat, x.2.1 = (e : Int) := ⟨x.2.1.toNat, by omega⟩
  have hrl := hV.rows
  have hsR : s < T.rows.length := by omega
  have hsRI : (s : Int) < T.rows.length := by omega
  have hrow := hV.row _ (List.getElem_mem hsR)
  have heR : e < T.rows[s].length := by omega
  have heRI : (e : Int) < T.rows[s].length := by omega
  have hch := chg_rows s e hs he hsR
  obtain ⟨⟨y1, y2⟩, hy⟩ : ∃ y, x.2.2 = y := ⟨_, rfl⟩
  rw [hy] at hch o5 o6 o7 o8
  rw [hs, he, hy]
  dsimp only at o5 o6 o7 o8 ⊢
  have z0 := nv_eq hn m hm
  have zs := nv_succ n m
  have zr : -9223372036854775808 ≤ nv n m ∧ nv n m ≤ 9223372036854775807 := wrap_range _
  obtain ⟨N, hN⟩ : ∃ y, nv n m = y := ⟨_, rfl⟩
  obtain ⟨N', hN'⟩ : ∃ y, nv n (m + 1) = y := ⟨_, rfl⟩
  rw [hN] at z0 zs zr
  rw [hN'] at zs
  obtain ⟨w1, hw1⟩ : ∃ x, W.alloc (.cells #[.int .i64 y1, .int .i64 y2] TRow) = x := ⟨_, rfl⟩
  have P1 := Pt.newA W TRow #[.int .i64 y1, .int .i64 y2]
  rw [hw1] at P1
  have F1 : Fr [] W w1 := by rw [← hw1]; exact (Fr.refl [] W).alloc _
  obtain ⟨b1, hb1⟩ : ∃ x, W.heap.size = x := ⟨_, rfl⟩
  rw [hb1] at P1
  have hJ1 := hJ.fr F1
  have l1 : b1 < w1.heap.size := P1.lt
  have B1 : B ≤ b1 := by omega
  have pn := hJ1.pn
  rw [hN] at pn
  by_cases hz : n = m
  · have hN0 : N = 0 := z0.mpr hz
    subst hN0
    have hfd : fdM n m = false := by unfold fdM; rw [hz]; simp
    have hfd2 : fdM n (m + 1) = true := by unfold fdM; rw [hz]; simp; omega
    have hgo : goM n m = false := by unfold goM; rw [hz]; simp; omega
    rw [hgo]
    have pf := hJ1.pf
    rw [hfd] at pf
    have pu : Pt w1 bu TTab [.int .i64 0, .int .i64 0, .int .i64 0, .slice none 0 0] := by
      rcases hJ1.po with h | h
      · exact h.2
      · rw [hfd] at h; cases h.1
    have pt := hJ1.pt
    have CP := copied_any T r w1 (hR.fr F1) hV
    have k1 := pn.cell
    have k2 := pt.cell
    have hxn : (mutL T)[n.toNat]? = some x := by rw [hz]; simpa using hx
    have zs' : N' = -1 := by rw [← zs]; rfl
    subst zs'
    have s1 := F1.size
    replace hJ := Lib.hid hJ; replace hJ1 := Lib.hid hJ1; replace hR := Lib.hid hR; replace hV := Lib.hid hV; replace P1 := Lib.hid P1; replace F1 := Lib.hid F1; replace CP := Lib.hid CP; replace pf := Lib.hid pf; replace pu := Lib.hid pu; replace pt := Lib.hid pt; replace pn := Lib.hid pn; replace hN := Lib.hid hN; replace hN' := Lib.hid hN'; replace zs := Lib.hid zs; replace hch := Lib.hid hch; replace hrow := Lib.hid hrow; replace hrl := Lib.hid hrl; replace hs := Lib.hid hs; replace he := Lib.hid he; replace hy := Lib.hid hy; replace hfd := Lib.hid hfd; replace hfd2 := Lib.hid hfd2; replace hgo := Lib.hid hgo; replace hx := Lib.hid hx; replace hxn := Lib.hid hxn; replace z0 := Lib.hid z0; replace hz := Lib.hid hz; replace hn := Lib.hid hn
    go_enter Try.func71, Try.ntmps71
    go_wp2_with fail
    refine CP.out.mono ?_
    rintro ee w2 ⟨rv, us, bo, bs, rfl, hO, f2⟩
    have pn2 := f2.pt pn.out (by simp)
    have pt2 := f2.pt pt.out (by simp)
    have pf2 := f2.pt pf.out (by simp)
    have pu2 := f2.pt pu.out (by simp)
    have p12 := f2.pt P1.out (by simp)
    have p3 := (((pu2.set 0 (.int .i64 T.st)).set 1 (.int .i64 T.ev)).set 2 (.int .i64 T.sr)).set 3 rv
    have fs3 : Fr [bu] w2 ((((w2.setCell ⟨bu, 0, none⟩ (.int .i64 T.st)).setCell ⟨bu, 1, none⟩ (.int .i64 T.ev)).setCell ⟨bu, 2, none⟩ (.int .i64 T.sr)).setCell ⟨bu, 3, none⟩ rv) := ((((Fr.refl _ w2).setCell (by simp) _).setCell (by simp) _).setCell (by simp) _).setCell (by simp) _
    obtain ⟨w3, hw3⟩ : ∃ x, (((w2.setCell ⟨bu, 0, none⟩ (.int .i64 T.st)).setCell ⟨bu, 1, none⟩ (.int .i64 T.ev)).setCell ⟨bu, 2, none⟩ (.int .i64 T.sr)).setCell ⟨bu, 3, none⟩ rv = x := ⟨_, rfl⟩
    rw [hw3] at p3 fs3
    simp only [List.set_cons_zero, List.set_cons_succ] at p3
    have c2u := pu2.cell
    have z2u := pu2.free
    have pf3 := fs3.pt pf2 (by simp; omega)
    have c3f := pf3.cell
    have z3f := pf3.free
    have p4 := pf3.set 0 (.bool true)
    have fs4 : Fr [bf] w3 (w3.setCell ⟨bf, 0, none⟩ (.bool true)) := (Fr.refl _ w3).setCell (by simp) _
    obtain ⟨w4, hw4⟩ : ∃ x, w3.setCell ⟨bf, 0, none⟩ (.bool true) = x := ⟨_, rfl⟩
    rw [hw4] at p4 fs4
    simp only [List.set_cons_zero, List.set_cons_succ] at p4
    have pu4 := fs4.pt p3 (by simp; omega)
    have p14 := fs4.pt (fs3.pt p12 (by simp; omega)) (by simp; omega)
    have pn4 := fs4.pt (fs3.pt pn2 (by simp; omega)) (by simp; omega)
    have pt4 := fs4.pt (fs3.pt pt2 (by simp; omega)) (by simp; omega)
    have s2 := f2.size
    have hO4 := (hO.fr fs3 (fun q hq => by simp at hq; omega)).fr fs4 (fun q hq => by simp at hq; omega)
    have s34 := fs3.size
    have s44 := fs4.size
    have FA : Fr [bn, bu, bf] W w4 := (((F1.out.mono (by simp)).trans (f2.mono (by simp))).trans (fs3.mono (by simp))).trans (fs4.mono (by simp))
    obtain ⟨w5, hw5⟩ : ∃ x, w4.drew = x := ⟨_, rfl⟩
    have f5 : Fr [] w4 w5 := by rw [← hw5]; exact (Fr.refl [] w4).drew
    have hO5 := hO4.fr f5 (by simp)
    obtain ⟨br, or, cr, bz, oz, cz, hrv, q1, q2, q3, q4, q5, q6, ⟨u1, q7⟩, ⟨u2, q8⟩, q9, q10, hO6, f6⟩ := hO5.put s e hsR heR (y1, y2)
    obtain ⟨w6, hw6⟩ : ∃ x, (w5.setCell ⟨bz, oz + e * 2, none⟩ (.int .i64 y1)).setCell ⟨bz, oz + e * 2 + 1, none⟩ (.int .i64 y2) = x := ⟨_, rfl⟩
    dsimp only at hO6 f6
    rw [hw6] at hO6 f6
    rw [← hch.out] at hO6
    subst hrv
    have lz := q6
    have pu5 := f5.pt pu4 (by simp)
    have k5u := pu5.cell
    have k51 := (f5.pt p14 (by simp)).cell
    have pn6 := f6.pt (f5.pt pn4 (by simp)) (by simp; omega)
    have pt6 := f6.pt (f5.pt pt4 (by simp)) (by simp; omega)
    have pf6 := f6.pt (f5.pt p4 (by simp)) (by simp; omega)
    have pu6 := f6.pt pu5 (by simp; omega)
    have cn6 := pn6.cell
    have zn6 := pn6.free
    have p7 := pn6.set 0 (.int .i64 (-1))
    have fs7 : Fr [bn] w6 (w6.setCell ⟨bn, 0, none⟩ (.int .i64 (-1))) := (Fr.refl _ w6).setCell (by simp) _
    obtain ⟨w7, hw7⟩ : ∃ x, w6.setCell ⟨bn, 0, none⟩ (.int .i64 (-1)) = x := ⟨_, rfl⟩
    rw [hw7] at p7 fs7
    simp only [List.set_cons_zero, List.set_cons_succ] at p7
    have pf7 := fs7.pt pf6 (by simp; omega)
    have cf7 := pf7.cell
    have hO7 := hO6.fr fs7 (fun q hq => by simp at hq; omega)
    have FE : Fr [bn, bu, bf] W w7 := ((FA.trans (f5.mono (by simp))).step f6 (fun q hq => .inr (by simp at hq; have := F1.out.size; omega))).trans (fs7.mono (by simp))
    have GO : MuJ T (r) n B bn bt bu bf (m + 1) w7 := ⟨by rw [hN'.out]; exact p7, fs7.pt pt6 (by simp; omega), by rw [hfd2.out]; exact pf7, .inr ⟨hfd2.out, x, _, us, bo, bs, hxn.out, fs7.pt pu6 (by simp; omega), ⟨hO7.row, hO7.len, hO7.each, hO7.inj, hO7.nbo, fun z hz => by have := hO7.qo z hz; omega, fun k z hk hz => by have := hO7.qs k z hk hz; omega⟩⟩⟩
    have hw5' := hw5
    replace pn2 := Lib.hid pn2; replace pt2 := Lib.hid pt2; replace pf2 := Lib.hid pf2; replace pu2 := Lib.hid pu2; replace p12 := Lib.hid p12; replace p3 := Lib.hid p3; replace fs3 := Lib.hid fs3; replace pf3 := Lib.hid pf3; replace p4 := Lib.hid p4; replace fs4 := Lib.hid fs4; replace pu4 := Lib.hid pu4; replace p14 := Lib.hid p14; replace pn4 := Lib.hid pn4; replace pt4 := Lib.hid pt4; replace hO4 := Lib.hid hO4; replace hO := Lib.hid hO; replace FA := Lib.hid FA; replace f2 := Lib.hid f2; replace f5 := Lib.hid f5; replace hO5 := Lib.hid hO5; replace hO6 := Lib.hid hO6; replace f6 := Lib.hid f6; replace pu5 := Lib.hid pu5; replace pn6 := Lib.hid pn6; replace pt6 := Lib.hid pt6; replace pf6 := Lib.hid pf6; replace pu6 := Lib.hid pu6; replace p7 := Lib.hid p7; replace fs7 := Lib.hid fs7; replace pf7 := Lib.hid pf7; replace hO7 := Lib.hid hO7; replace FE := Lib.hid FE; replace GO := Lib.hid GO; replace q3 := Lib.hid q3; replace q4 := Lib.hid q4; replace hw5 := Lib.hid hw5
    clear k1 k2 hw1 hb1
    go_wp2_with fail
    clear c2u z2u c3f z3f hw3 hw4
    go_still_tail 8, (by kernel_rfl)
    rw [show ({ heap := w4.heap, tape := w4.tape, drawn := w4.drawn + 1, os := w4.os, output := w4.output } : World) = w4.drew from rfl, hw5.out]
    repeat still_step
    first | refine wpStill_nil ?_ | skip
    go_wp2_with fail
    go_ret
    exact ⟨rfl, GO.out, FE.out⟩
  · have hN0 : ¬ N = 0 := fun h => hz (z0.mp h)
    have hN0b : (N == 0) = false := by simpa using hN0
    have hfd : fdM n (m + 1) = fdM n m := by
      unfold fdM
      congr 1
      rw [decide_eq_decide]
      constructor <;> intro h <;> omega
    have hgo : goM n m = !fdM n m := by
      unfold goM
      rw [← hfd]; unfold fdM
      rw [show ((m + 1 : Nat) : Int) = (m : Int) + 1 by omega]
    have pf := hJ1.pf
    have pt := hJ1.pt
    have cn := pn.cell
    have zn := pn.free
    have p7 := pn.set 0 (.int .i64 N')
    have fs7 : Fr [bn] w1 (w1.setCell ⟨bn, 0, none⟩ (.int .i64 N')) := (Fr.refl _ w1).setCell (by simp) _
    obtain ⟨w7, hw7⟩ : ∃ x, w1.setCell ⟨bn, 0, none⟩ (.int .i64 N') = x := ⟨_, rfl⟩
    rw [hw7] at p7 fs7
    simp only [List.set_cons_zero, List.set_cons_succ] at p7
    have pf7 := fs7.pt pf (by simp; omega)
    have cf7 := pf7.cell
    have po7 : OutM T n (m + 1) B w7 bu := by
      rcases hJ1.po with ⟨h1, h2⟩ | ⟨h1, xx, rv, us, bo, bs, h2, h3, h4⟩
      · exact .inl ⟨by rw [hfd]; exact h1, fs7.pt h2 (by simp; omega)⟩
      · exact .inr ⟨by rw [hfd]; exact h1, xx, rv, us, bo, bs, h2, fs7.pt h3 (by simp; omega), h4.fr fs7 (fun q hq => by simp at hq; omega)⟩
    have FE : Fr [bn, bu, bf] W w7 := (F1.mono (by simp)).trans (fs7.mono (by simp))
    have GO : MuJ T r n B bn bt bu bf (m + 1) w7 := ⟨by rw [hN']; exact p7, fs7.pt pt (by simp; omega), by rw [hfd]; exact pf7, po7⟩
    obtain ⟨fd, hfdd⟩ : ∃ b, fdM n m = b := ⟨_, rfl⟩
    rw [hfdd] at hgo cf7
    rw [hgo]
    have zs64 : wrap64 (N - 1) = N' := by
      rw [← zs, wrap_def]
      unfold wrap64
      first | rfl | omega
    clear d1 d2 d3 d4 d5 d6 z0 hN0 hz hn zs
    replace hJ := Lib.hid hJ; replace hJ1 := Lib.hid hJ1; replace hR := Lib.hid hR; replace hV := Lib.hid hV; replace P1 := Lib.hid P1; replace F1 := Lib.hid F1; replace pf := Lib.hid pf; replace pt := Lib.hid pt; replace pn := Lib.hid pn; replace hN := Lib.hid hN; replace hN' := Lib.hid hN'; replace hch := Lib.hid hch; replace hrow := Lib.hid hrow; replace hrl := Lib.hid hrl; replace hs := Lib.hid hs; replace he := Lib.hid he; replace hy := Lib.hid hy; replace hfd := Lib.hid hfd; replace hgo := Lib.hid hgo; replace hx := Lib.hid hx; replace p7 := Lib.hid p7; replace fs7 := Lib.hid fs7; replace pf7 := Lib.hid pf7; replace po7 := Lib.hid po7; replace FE := Lib.hid FE; replace GO := Lib.hid GO; replace hfdd := Lib.hid hfdd
    go_enter Try.func71, Try.ntmps71
    cases fd
    all_goals
      go_wp2_with fail
      go_ret
      exact ⟨rfl, GO.out, FE.out⟩
end Go.Proofs.Ytnggimkkjdipmaa
namespace Go.Proofs.Ytnggimkkjdipmaa
open Go.RowKit
set_option linter.unusedVariables false
set_option linter.unusedSimpArgs false
set_option maxHeartbeats 16000000
set_option maxRecDepth 100000
theorem nextsR_len (r : Int × Int) (k : Nat) : (nextsR r k).length ≤ k := by
  have := List.length_filter_le (fun n => decide (n ≠ r.1)) ((List.range k).map fun k : Nat => (k : Int))
  simpa [nextsR] using this
theorem mutRow_len {T : Tb} (hT : VT T) (s : Int) (e : Nat) (r : Int × Int) : (mutRow T s e r).length ≤ 31 := by
  have := nextsR_len r T.st.toNat
  have := hT.st
  unfold mutRow
  split
  · simp
  · simp only [List.length_cons, List.length_map]; omega
theorem mutRows_len {T : Tb} (hT : VT T) (s : Int) : ∀ (l : List (Int × Int)) (e : Nat), (mutRows T s e l).length ≤ l.length * 31
  | [], e => by simp [mutRows]
  | r :: l, e => by
    have := mutRow_len hT s e r
    have := mutRows_len hT s l (e + 1)
    simp only [mutRows, List.length_append, List.length_cons]; omega
theorem mutL_len {T : Tb} (hT : VT T) : (mutL T).length ≤ 11160 := by
  have h1 := flat_len2 (mutS T) 372 (reachL T) (fun s _ => by
    have := mutRows_len hT s (T.rows.getD s.toNat []) 0
    have := row12 hT s.toNat
    unfold mutS; omega)
  have h2 := reachL_len hT
  unfold mutL
  omega
/-- What Mutant hands back: the mutant, in blocks of its own. -/
def MutR (X : Tb) (s : Int) (w : World) (e : Ending) (w' : World) : Prop := ∃ rv us bo bs, e = .returned (.tuple #[.agg #[.int .i64 X.st, .int .i64 X.ev, .int .i64 X.sr, rv], .int .i64 s]) ∧ ORows (fun b => w.heap.size ≤ b) w' rv X.rows us bo bs ∧ Fr [] w w'
theorem MutR_none {s : Int} {w w' : World} (f : Fr [] w w') : MutR Tb.none s w (.returned (.tuple #[.agg #[.int .i64 0, .int .i64 0, .int .i64 0, .slice none 0 0], .int .i64 s])) w' := ⟨_, [], none, fun _ => none, rfl, ORows.nil _ _ _, f⟩
theorem cf_mut1 : ∀ W args, (callFunc 71 args).run Try.prog W = .ok (.enter 71 args) W := by
  intro W args
  have hb : Try.f71.body.isNone = false := by kernel_rfl
  simp [callFunc, go_sem, Try.func71]
  rw [if_neg (by decide +kernel), if_neg (fun h => by rw [h] at hb; cases hb)]
theorem Mutant_any (T : Tb) (v : Value) (n : Int) (hn : -9223372036854775808 ≤ n ∧ n ≤ 9223372036854775807) (w : World) (hT : TIn w v T) :
    Calls Try.prog 38 #[v, .int .i64 n] w (MutR (mutantF T n).1 (mutantF T n).2 w) := by
  obtain ⟨r, rfl, hR⟩ := hT
  rw [show T.val r = .agg #[.int .i64 T.st, .int .i64 T.ev, .int .i64 T.sr, r] from rfl]
  have VA : ∀ W, Fr [] w W → Calls Try.prog 19 #[.agg #[.int .i64 T.st, .int .i64 T.ev, .int .i64 T.sr, r]] W fun e w' => e = .returned (.bool (validT T)) ∧ Fr [] W w' := fun W f => valid_any T _ W ⟨r, rfl, hR.fr f⟩
  obtain ⟨⟨X, z⟩, hX⟩ : ∃ x, mutantF T n = x := ⟨_, rfl⟩
  rw [hX]
  dsimp only
  obtain ⟨w1, hw1⟩ : ∃ x, w.alloc (.cells #[.int .i64 T.st, .int .i64 T.ev, .int .i64 T.sr, r] TTab) = x := ⟨_, rfl⟩
  have P1 := Pt.newA w TTab #[.int .i64 T.st, .int .i64 T.ev, .int .i64 T.sr, r]
  rw [hw1] at P1
  have F1 : Fr [] w w1 := by rw [← hw1]; exact (Fr.refl [] w).alloc _
  obtain ⟨b1, hb1⟩ : ∃ x, w.heap.size = x := ⟨_, rfl⟩
  rw [hb1] at P1
  obtain ⟨w2, hw2⟩ : ∃ x, w1.alloc (.cells #[.int .i64 n] 3) = x := ⟨_, rfl⟩
  have P2 := Pt.newA w1 3 #[.int .i64 n]
  rw [hw2] at P2
  have F2 : Fr [] w1 w2 := by rw [← hw2]; exact (Fr.refl [] w1).alloc _
  obtain ⟨b2, hb2⟩ : ∃ x, w1.heap.size = x := ⟨_, rfl⟩
  rw [hb2] at P2
  obtain ⟨w3, hw3⟩ : ∃ x, w2.alloc (.cells #[.int .i64 0, .int .i64 0, .int .i64 0, .slice none 0 0] TTab) = x := ⟨_, rfl⟩
  have P3 := Pt.newA w2 TTab #[.int .i64 0, .int .i64 0, .int .i64 0, .slice none 0 0]
  rw [hw3] at P3
  have F3 : Fr [] w2 w3 := by rw [← hw3]; exact (Fr.refl [] w2).alloc _
  obtain ⟨b3, hb3⟩ : ∃ x, w2.heap.size = x := ⟨_, rfl⟩
  rw [hb3] at P3
  have l1 := P1.lt
  have l2 := P2.lt
  have l3 := P3.lt
  have lt12 : b1 < b2 := by omega
  have lt23 : b2 < b3 := by omega
  have wb1 : w.heap.size ≤ b1 := by omega
  have Q1 := F3.pt (F2.pt P1 (by simp)) (by simp)
  have Q2 := F3.pt P2 (by simp)
  have FA := (F1.trans F2).trans F3
  have k1 := Q1.cell
  replace P1 := Lib.hid P1; replace P2 := Lib.hid P2; replace P3 := Lib.hid P3; replace Q1 := Lib.hid Q1; replace Q2 := Lib.hid Q2; replace F1 := Lib.hid F1; replace F2 := Lib.hid F2; replace F3 := Lib.hid F3; replace FA := Lib.hid FA; replace VA := Lib.hid VA; replace hR := Lib.hid hR; replace hX := Lib.hid hX; replace hn := Lib.hid hn
  go_enter Try.func38, Try.ntmps38
  go_wp2_with fail
  refine (VA.out _ FA.out).mono ?_
  rintro e w4 ⟨rfl, f4⟩
  have F4 := FA.out.trans f4
  have p1 := f4.pt Q1.out (by simp)
  have p2 := f4.pt Q2.out (by simp)
  have p3 := f4.pt P3.out (by simp)
  have l4 := p3.lt
  clear k1 hw1 hw2 hw3 hb1 hb2 hb3
  cases hv : validT T
  · have hx := hX.out
    unfold mutantF at hx
    rw [hv] at hx
    obtain ⟨rfl, rfl⟩ : Tb.none = X ∧ 1 = z := by simpa using hx
    clear hx
    have c3 := p3.cell
    have z3 := p3.free
    have q3 := (((p3.set 0 (.int .i64 0)).set 1 (.int .i64 0)).set 2 (.int .i64 0)).set 3 (.slice none 0 0)
    have f5 : Fr [b3] w4 ((((w4.setCell ⟨b3, 0, none⟩ (.int .i64 0)).setCell ⟨b3, 1, none⟩ (.int .i64 0)).setCell ⟨b3, 2, none⟩ (.int .i64 0)).setCell ⟨b3, 3, none⟩ (.slice none 0 0)) := ((((Fr.refl _ w4).setCell (by simp) _).setCell (by simp) _).setCell (by simp) _).setCell (by simp) _
    obtain ⟨w5, hw5⟩ : ∃ x, (((w4.setCell ⟨b3, 0, none⟩ (.int .i64 0)).setCell ⟨b3, 1, none⟩ (.int .i64 0)).setCell ⟨b3, 2, none⟩ (.int .i64 0)).setCell ⟨b3, 3, none⟩ (.slice none 0 0) = x := ⟨_, rfl⟩
    rw [hw5] at q3 f5
    simp only [List.set_cons_zero, List.set_cons_succ] at q3
    have k3 := q3.cell
    have GO := MutR_none (s := 1) (F4.step f5 (fun q hq => .inr (by simp at hq; omega)))
    replace hv := Lib.hid hv; replace F4 := Lib.hid F4; replace f4 := Lib.hid f4; replace p1 := Lib.hid p1; replace p2 := Lib.hid p2; replace p3 := Lib.hid p3; replace q3 := Lib.hid q3; replace f5 := Lib.hid f5; replace GO := Lib.hid GO
    go_wp2_with fail
    refine bodyPost_ret (v := .tuple #[.agg #[.int .i64 0, .int .i64 0, .int .i64 0, .slice none 0 0], .int .i64 1]) (by simp [results, Try.results38, go_sem, k3]) rfl GO.out
  · have hV := (validT_iff T).mp hv
    have hx := hX.out
    unfold mutantF at hx
    rw [hv, if_pos rfl] at hx
    obtain ⟨w5, hw5⟩ : ∃ x, w4.alloc (.cells #[.int .i64 0, .int .i64 0, .int .i64 0, .slice none 0 0] TTab) = x := ⟨_, rfl⟩
    have P4 := Pt.newA w4 TTab #[.int .i64 0, .int .i64 0, .int .i64 0, .slice none 0 0]
    rw [hw5] at P4
    have F5 : Fr [] w4 w5 := by rw [← hw5]; exact (Fr.refl [] w4).alloc _
    obtain ⟨b4, hb4⟩ : ∃ x, w4.heap.size = x := ⟨_, rfl⟩
    rw [hb4] at P4
    obtain ⟨w6a, hw6a⟩ : ∃ x, w5.alloc (.cells #[.bool false] 4) = x := ⟨_, rfl⟩
    have P5a := Pt.newA w5 4 #[.bool false]
    rw [hw6a] at P5a
    have F6a : Fr [] w5 w6a := by rw [← hw6a]; exact (Fr.refl [] w5).alloc _
    obtain ⟨b5, hb5⟩ : ∃ x, w5.heap.size = x := ⟨_, rfl⟩
    rw [hb5] at P5a
    have P5 := P5a.set 0 (.bool false)
    have F6 : Fr [] w5 (w6a.setCell ⟨b5, 0, none⟩ (.bool false)) := F6a.setCell (.inr (by show _ ≤ b5; omega)) _
    obtain ⟨w6, hw6⟩ : ∃ x, w6a.setCell ⟨b5, 0, none⟩ (.bool false) = x := ⟨_, rfl⟩
    rw [hw6] at P5 F6
    simp only [List.set_cons_zero] at P5
    have c5a := P5a.cell
    have z5a := P5a.free
    have l5 := P4.lt
    have l6 := P5.lt
    have lt34 : b3 < b4 := by omega
    have lt45 : b4 < b5 := by omega
    have F46 := F5.trans F6
    have F06 := F4.trans F46
    have g1 := F46.pt p1 (by simp)
    have g2 := F46.pt p2 (by simp)
    have g3 := F46.pt p3 (by simp)
    have g4 := F6.pt P4 (by simp)
    obtain ⟨B, hB⟩ : ∃ x, w6.heap.size = x := ⟨_, rfl⟩
    rw [hB] at l6
    have hlen := mutL_len hV
    have hf0 : fdM n 0 = false := by unfold fdM; simp
    have J0 : MuJ T r n B b2 b1 b4 b5 0 w6 := ⟨by rw [nv_zero hn.out]; exact g2, g1, by rw [hf0]; exact P5, .inl ⟨hf0, g4⟩⟩
    have MU := mutants_any T r w w6 hR.out hV F06 71 #[.pointer (some ⟨b2, 0, none⟩), .pointer (some ⟨b1, 0, none⟩), .pointer (some ⟨b4, 0, none⟩), .pointer (some ⟨b5, 0, none⟩)] cf_mut1 [b2, b4, b5] (fun x hx => by simp at hx; omega) (goM n) (MuJ T r n B b2 b1 b4 b5) (fun i W W' h f => h.fr f) J0
      (fun P x R hP W hJ hF => by
        have hPl : P.length ≤ 11160 := by rw [hP] at hlen; simp only [List.length_append, List.length_cons] at hlen; omega
        exact mut1_any T r n hn.out hV B b2 b1 b4 b5 P.length (by omega) ⟨by omega, by omega, by omega, by omega, by omega, by omega⟩ ⟨by omega, by omega, by omega, by omega⟩ x (by rw [hP]; simp) W hJ (hR.out.fr (F06.step hF (fun q hq => .inr (by simp at hq; omega)))) (by have := hF.size; omega))
    have c1 := g1.cell
    replace hv := Lib.hid hv; replace hV := Lib.hid hV; replace hx := Lib.hid hx; replace F4 := Lib.hid F4; replace f4 := Lib.hid f4; replace p1 := Lib.hid p1; replace p2 := Lib.hid p2; replace p3 := Lib.hid p3; replace P4 := Lib.hid P4; replace P5 := Lib.hid P5; replace P5a := Lib.hid P5a; replace F6a := Lib.hid F6a; replace F5 := Lib.hid F5; replace F6 := Lib.hid F6; replace F46 := Lib.hid F46; replace F06 := Lib.hid F06; replace g1 := Lib.hid g1; replace g2 := Lib.hid g2; replace g3 := Lib.hid g3; replace g4 := Lib.hid g4; replace J0 := Lib.hid J0; replace MU := Lib.hid MU; replace hlen := Lib.hid hlen; replace hB := Lib.hid hB; replace hf0 := Lib.hid hf0
    go_wp2_with fail
    refine MU.out.mono ?_
    rintro e w7 ⟨k, rfl, hkN, hJ, hF7, hgo, hend⟩
    have g37 := hF7.pt g3.out (by simp; omega)
    have F7 := F06.out.step hF7 (fun q hq => .inr (by simp at hq; omega))
    have pf := hJ.pf
    have cf := pf.cell
    have c3 := g37.cell
    have z3 := g37.free
    clear c1 hw5 hw6 hw6a hb4 hb5 c5a z5a
    cases hfd : fdM n k
    · rw [hfd] at cf
      have hXn : Tb.none = X ∧ 3 = z := by
        have hk : k = (mutL T).length := by
          rcases hend with h | ⟨q, h1, h2⟩
          · exact h
          · exfalso
            unfold goM at h2; unfold fdM at hfd
            subst h1
            simp at h2 hfd
            omega
        have hx' := hx.out
        unfold fdM at hfd
        simp at hfd
        by_cases h0 : 0 ≤ n
        · have := hfd h0
          rw [if_pos h0, List.getElem?_eq_none (by omega)] at hx'
          simpa using hx'
        · rw [if_neg h0] at hx'
          simpa using hx'
      obtain ⟨rfl, rfl⟩ := hXn
      have q3 := (((g37.set 0 (.int .i64 0)).set 1 (.int .i64 0)).set 2 (.int .i64 0)).set 3 (.slice none 0 0)
      have f8 : Fr [b3] w7 ((((w7.setCell ⟨b3, 0, none⟩ (.int .i64 0)).setCell ⟨b3, 1, none⟩ (.int .i64 0)).setCell ⟨b3, 2, none⟩ (.int .i64 0)).setCell ⟨b3, 3, none⟩ (.slice none 0 0)) := ((((Fr.refl _ w7).setCell (by simp) _).setCell (by simp) _).setCell (by simp) _).setCell (by simp) _
      obtain ⟨w8, hw8⟩ : ∃ x, (((w7.setCell ⟨b3, 0, none⟩ (.int .i64 0)).setCell ⟨b3, 1, none⟩ (.int .i64 0)).setCell ⟨b3, 2, none⟩ (.int .i64 0)).setCell ⟨b3, 3, none⟩ (.slice none 0 0) = x := ⟨_, rfl⟩
      rw [hw8] at q3 f8
      simp only [List.set_cons_zero, List.set_cons_succ] at q3
      have k3 := q3.cell
      have GO := MutR_none (s := 3) (F7.step f8 (fun q hq => .inr (by simp at hq; omega)))
      replace hJ := Lib.hid hJ; replace hF7 := Lib.hid hF7; replace hgo := Lib.hid hgo; replace hend := Lib.hid hend; replace g37 := Lib.hid g37; replace F7 := Lib.hid F7; replace pf := Lib.hid pf; replace hfd := Lib.hid hfd; replace q3 := Lib.hid q3; replace f8 := Lib.hid f8; replace GO := Lib.hid GO; replace hkN := Lib.hid hkN
      go_wp2_with fail
      refine bodyPost_ret (v := .tuple #[.agg #[.int .i64 0, .int .i64 0, .int .i64 0, .slice none 0 0], .int .i64 3]) (by simp [results, Try.results38, go_sem, k3]) rfl GO.out
    · rw [hfd] at cf
      obtain ⟨x, rv, us, bo, bs, hxn, pu, hO⟩ : ∃ x rv us bo bs, (mutL T)[n.toNat]? = some x ∧ Pt w7 b4 TTab [.int .i64 T.st, .int .i64 T.ev, .int .i64 T.sr, rv] ∧ ORows (fun b => B ≤ b) w7 rv (T.chg x).rows us bo bs := by
        rcases hJ.po with h | h
        · rw [hfd] at h; cases h.1
        · exact h.2
      have h0 : 0 ≤ n := by unfold fdM at hfd; simp at hfd; omega
      obtain ⟨orv, crv, hrv⟩ := hO.row.len
      obtain ⟨nus, hnus⟩ : ∃ y, us.length = y := ⟨_, rfl⟩
      rw [hnus] at hrv
      subst hrv
      replace hnus := Lib.hid hnus
      have hx' := hx.out
      rw [if_pos h0, hxn] at hx'
      obtain ⟨rfl, rfl⟩ : T.chg x = X ∧ 0 = z := by simpa using hx'
      have q3 := (((g37.set 0 (.int .i64 T.st)).set 1 (.int .i64 T.ev)).set 2 (.int .i64 T.sr)).set 3 (.slice orv nus crv)
      have f8 : Fr [b3] w7 ((((w7.setCell ⟨b3, 0, none⟩ (.int .i64 T.st)).setCell ⟨b3, 1, none⟩ (.int .i64 T.ev)).setCell ⟨b3, 2, none⟩ (.int .i64 T.sr)).setCell ⟨b3, 3, none⟩ (.slice orv nus crv)) := ((((Fr.refl _ w7).setCell (by simp) _).setCell (by simp) _).setCell (by simp) _).setCell (by simp) _
      obtain ⟨w8, hw8⟩ : ∃ x, (((w7.setCell ⟨b3, 0, none⟩ (.int .i64 T.st)).setCell ⟨b3, 1, none⟩ (.int .i64 T.ev)).setCell ⟨b3, 2, none⟩ (.int .i64 T.sr)).setCell ⟨b3, 3, none⟩ (.slice orv nus crv) = x := ⟨_, rfl⟩
      rw [hw8] at q3 f8
      simp only [List.set_cons_zero, List.set_cons_succ] at q3
      have k3 := q3.cell
      have cu := pu.cell
      have hO8 := hO.fr f8 (fun q hq => by simp at hq; omega)
      have GO : MutR (T.chg x) 0 w (.returned (.tuple #[.agg #[.int .i64 T.st, .int .i64 T.ev, .int .i64 T.sr, .slice orv nus crv], .int .i64 0])) w8 := ⟨_, us, bo, bs, rfl, ⟨hO8.row, hO8.len, hO8.each, hO8.inj, hO8.nbo, fun z hz => by have := hO8.qo z hz; omega, fun k z hk hz => by have := hO8.qs k z hk hz; omega⟩, F7.step f8 (fun q hq => .inr (by simp at hq; omega))⟩
      clear hx' hxn
      replace hJ := Lib.hid hJ; replace hF7 := Lib.hid hF7; replace hgo := Lib.hid hgo; replace hend := Lib.hid hend; replace g37 := Lib.hid g37; replace F7 := Lib.hid F7; replace pf := Lib.hid pf; replace hfd := Lib.hid hfd; replace q3 := Lib.hid q3; replace f8 := Lib.hid f8; replace GO := Lib.hid GO; replace hkN := Lib.hid hkN; replace hO := Lib.hid hO; replace hO8 := Lib.hid hO8; replace pu := Lib.hid pu; replace h0 := Lib.hid h0
      go_wp2_with fail
      refine bodyPost_ret (v := .tuple #[.agg #[.int .i64 T.st, .int .i64 T.ev, .int .i64 T.sr, .slice orv nus crv], .int .i64 0]) (by simp [results, Try.results38, go_sem, k3]) rfl GO.out
end Go.Proofs.Ytnggimkkjdipmaa
