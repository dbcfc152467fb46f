import Derived.Test.YtjgmlnkbplgloaaQ4
import Derived.Test.YtjgmlnkbplgloaaS5
import Derived.Outline
import Derived.Deep.LoopGhost
import Derived.Deep.Cut
import Derived.Deep.CutRange
namespace Go.Proofs.Ytjgmlnkbplgloaa
open Go.RowKit
set_option linter.unusedVariables false
set_option linter.unusedSimpArgs false
set_option maxHeartbeats 8000000
set_option maxRecDepth 20000
theorem tmod_cases (x m : Int) (hm : 0 < m) : (0 ≤ x % m ∧ x % m < m) ∧ ((x.tmod m = x % m ∧ (0 ≤ x ∨ x % m = 0)) ∨ (x.tmod m = x % m - m ∧ x < 0 ∧ x % m ≠ 0)) := by
  have h2 := Int.emod_nonneg x (show m ≠ 0 by omega)
  have h3 := Int.emod_lt_of_pos x hm
  refine ⟨⟨h2, h3⟩, ?_⟩
  rw [Int.tmod_eq_emod]
  split
  · rename_i h
    left
    refine ⟨by omega, ?_⟩
    rcases h with h | h
    · exact .inl h
    · exact .inr (Int.emod_eq_zero_of_dvd h)
  · rename_i h
    right
    have hx : x < 0 := by omega
    have hd : ¬ m ∣ x := fun hd => h (.inr hd)
    have : (m.natAbs : Int) = m := by omega
    refine ⟨by omega, hx, fun e => hd (Int.dvd_of_emod_eq_zero e)⟩
theorem mod_any (n m : Int) (w : World) (h0 : 1 ≤ m) (h1 : m ≤ 1000000) : Calls Try.prog 10 #[.int .i64 n, .int .i64 m] w fun e w' => e = .returned (.int .i64 (n % m)) ∧ w = w' := by
  obtain ⟨⟨h2, h3⟩, h⟩ := tmod_cases n m (by omega)
  have hm0 : (m == 0) = false := by rw [beq_eq_false_iff_ne]; omega
  have hm1 : ¬ m = 0 := by omega
  have hm2 : ¬ m < 1 := by omega
  rcases h with ⟨h4, h5⟩ | ⟨h4, h5, h6⟩
  · have h7 : ¬ n.tmod m < 0 := by omega
    rw [← h4]
    clear h4 h5 h2 h3
    go_enter Try.func10, Try.ntmps10
    go_wp2_with fail
    go_ret
    exact ⟨rfl, rfl⟩
  · have h7 : n.tmod m < 0 := by omega
    have h8 : wrap64 (n.tmod m + m) = n % m := by rw [h4]; unfold wrap64; omega
    clear h4 h5 h6 h2 h3
    go_enter Try.func10, Try.ntmps10
    go_wp2_with fail
    go_ret
    exact ⟨rfl, rfl⟩
def IntArg (w : World) (v : Value) (l : List Int) : Prop := ∃ (o : Option Addr) (cap : Nat), v = .slice o l.length cap ∧ (∀ x ∈ l, -9223372036854775808 ≤ x ∧ x ≤ 9223372036854775807) ∧
  ∀ (i : Nat) (h : i < l.length), ∃ b off, o = some ⟨b, off, none⟩ ∧ b < w.heap.size ∧ w.cell? ⟨b, off + i, none⟩ = some (.int .i64 l[i])
theorem resets_out (N : Int) (dv : Value) (ds : List Int) (h0 h1 : Int) (w : World) (hD : IntArg w dv ds) (hx : N < 0 ∨ 999999 < N ∨ 200 < ds.length) :
    Calls Try.prog 3 #[.int .i64 N, dv, .agg #[.int .i64 h0, .int .i64 h1]] w fun e w' => e = .returned (.bool true) ∧ Fr [] w w' := by
  obtain ⟨o, cap, rfl, _, hl⟩ := hD
  clear hl
  rcases (by omega : N < 0 ∨ (¬ N < 0 ∧ 999999 < N) ∨ (¬ N < 0 ∧ ¬ 999999 < N ∧ (200 : Int) < ds.length)) with g | ⟨g, g'⟩ | ⟨g, g', g''⟩
  all_goals
    go_enter Try.func3, Try.ntmps3
    go_wp2_with fail
    refine (sane_any _).mono ?_
    rintro e w1 ⟨rfl, f1⟩
    have F := ((Fr.refl [] w).alloc (.cells #[.int .i64 h0, .int .i64 h1] 23)).trans f1
    go_wp2_with fail
    go_ret
    exact ⟨rfl, F⟩
/-- The start of the two sides. -/
def sd0 (N : Int) : Bool → SS := fun j => ⟨true, !j, N, N, N, 0, [], [], false, 0, 0, false, 0, 0⟩
def bbOf (b0 b1 : Nat) : Bool → Nat := fun j => if j then b1 else b0
/-- append whose run is known, at a step of a region that draws. -/
theorem step_append_run {P : Program} {ops : Array Oper} {o : Oper} {a : Act} {w w' : World} {K : Act → World → Prop} {Q : Exit → Act → World → Prop} {E : Prop}
    (hg : o.guard = none) (s x : Operand) (t : TypeId) (hop : o.op = Op.call { callee := Callee.builtin Builtin.append, args := #[s, x], argTypes := #[t, t] })
    {v xv v' : Value} (hs : a.eval s = v) (hx : a.eval x = xv) (hrun : (Builtin.append_ #[t, t] o.type #[v, xv]).run P w = .ok v' w') (hK : K (a.put o.dst v') w') :
    if Region.wanted o (yielded ops a.tmps) = true then Oper.wp P o a w K Q else E := by
  have hw : Region.wanted o (yielded ops a.tmps) = true := by simp [Region.wanted, hg]
  rw [if_pos hw]
  unfold Oper.wp
  simp [execOp, hop, resolve, invoke, builtin, hs, hx, hrun, Result.andThen]
  exact hK
theorem pair_get {α : Type} (f : Bool → α) (j : Bool) : [f false, f true][j.toNat]? = some (f j) := by cases j <;> rfl
/-- What a round of SyncResets does first: side j is at its turn; the event e is its user's, or (kind 0) it goes on by itself. -/
def Turn (D : Nat) (N : Int) (g0 g1 : Bool) (i : Nat) (j : Bool) (e : Ev) : Prop :=
  (e.kind = 0 ∧ (i < D ∨ (i = D ∧ g0 = false ∧ j = false) ∨ (i = D + 1 ∧ g1 = false ∧ j = true) ∨ D + 2 ≤ i)) ∨ (e = ptE ∧ i < D) ∨
  ∃ how, (how = 0 ∨ how = 1 ∨ how = 2) ∧ e = beginE how N ∧ ((i = D ∧ g0 = true ∧ j = false) ∨ (i = D + 1 ∧ g1 = true ∧ j = true))
set_option maxHeartbeats 16000000 in
theorem resets_in (N : Int) (dv : Value) (ds : List Int) (h0 h1 : Int) (w : World) (hD : IntArg w dv ds) (hN : 0 ≤ N ∧ N ≤ 999999) (hlen : ds.length ≤ 200) :
    Calls Try.prog 3 #[.int .i64 N, dv, .agg #[.int .i64 h0, .int .i64 h1]] w fun e w' => e = .returned (.bool true) ∧ Fr [] w w' := by
  obtain ⟨o, cap, rfl, _, hl⟩ := hD
  have g1 : ¬ N < 0 := by omega
  have g2 : ¬ 999999 < N := by omega
  have g3 : ¬ (200 : Int) < ds.length := by omega
  obtain ⟨wh, hwh⟩ : ∃ x, w.alloc (.cells #[.int .i64 h0, .int .i64 h1] 23) = x := ⟨_, rfl⟩
  have PH := Pt.newA w 23 #[.int .i64 h0, .int .i64 h1]
  rw [hwh] at PH
  have FH : Fr [] w wh := by rw [← hwh]; exact (Fr.refl [] w).alloc _
  obtain ⟨bh, hbh⟩ : ∃ x, w.heap.size = x := ⟨_, rfl⟩
  rw [hbh] at PH
  obtain ⟨ws, hws⟩ : ∃ x, wh.alloc (.cells #[.pointer none, .pointer none] TSides) = x := ⟨_, rfl⟩
  have PS := Pt.newA wh TSides #[.pointer none, .pointer none]
  rw [hws] at PS
  have FS : Fr [] wh ws := by rw [← hws]; exact (Fr.refl [] wh).alloc _
  obtain ⟨bs, hbs⟩ : ∃ x, wh.heap.size = x := ⟨_, rfl⟩
  rw [hbs] at PS
  obtain ⟨ww, hww⟩ : ∃ x, ws.alloc (.cells #[.slice none 0 0, .slice none 0 0] TWays) = x := ⟨_, rfl⟩
  have PW := Pt.newA ws TWays #[.slice none 0 0, .slice none 0 0]
  rw [hww] at PW
  have FW : Fr [] ws ww := by rw [← hww]; exact (Fr.refl [] ws).alloc _
  obtain ⟨bw, hbw⟩ : ∃ x, ws.heap.size = x := ⟨_, rfl⟩
  rw [hbw] at PW
  have l1 := PH.lt
  have l2 := PS.lt
  have l3 := PW.lt
  have N1 := Lib.hid (new_ok [bs, bw, ww.heap.size] true N ww hN ⟨by simp, by simp; omega⟩)
  replace hl := Lib.hid hl
  replace PH := Lib.hid PH; replace PS := Lib.hid PS; replace PW := Lib.hid PW; replace FH := Lib.hid FH; replace FS := Lib.hid FS; replace FW := Lib.hid FW
  go_enter Try.func3, Try.ntmps3
  go_wp2_with fail
  refine wp_loop_rounds 3 ?_
  rw [rounds_succ]
  go_wp2_with fail
  refine N1.out.mono ?_
  rintro e w1 ⟨rfl, S1, f1⟩
  obtain ⟨b0, hb0⟩ : ∃ x, ww.heap.size = x := ⟨_, rfl⟩
  rw [hb0] at S1
  simp only [hb0]
  have ps1 := Lib.hid (f1.pt (FW.out.pt PS.out (by simp)) (by simp))
  have cs1 := ps1.out.cell
  have zs1 := ps1.out.free
  have l4 := S1.av.2 b0 (by simp)
  replace S1 := Lib.hid S1; replace f1 := Lib.hid f1
  go_wp2_with fail
  rw [rounds_succ]
  go_wp2_with fail
  obtain ⟨w2, hw2⟩ : ∃ x, w1.setCell ⟨bs, 0, none⟩ (.pointer (some ⟨b0, 0, none⟩)) = x := ⟨_, rfl⟩
  have PS2 : Pt w2 bs TSides [.pointer (some ⟨b0, 0, none⟩), .pointer none] := by rw [← hw2]; exact ps1.out.set' rfl
  have f2 : Fr [bs] w1 w2 := by rw [← hw2]; exact (Fr.refl _ _).setCell (by simp) _
  have lw2 : w2.heap.size = w1.heap.size := by rw [← hw2]; simp [World.setCell]
  have N2 := Lib.hid (new_ok [bs, bw, b0, w2.heap.size] false N w2 hN ⟨by simp, by simp; omega⟩)
  replace PS2 := Lib.hid PS2; replace f2 := Lib.hid f2
  rw [hw2]
  clear hw2 cs1 zs1
  refine N2.out.mono ?_
  rintro e w3 ⟨rfl, S3, f3⟩
  obtain ⟨b1, hb1⟩ : ∃ x, w2.heap.size = x := ⟨_, rfl⟩
  rw [hb1] at S3
  simp only [hb1]
  have ps3 := Lib.hid (f3.pt PS2.out (by simp))
  have cs3 := ps3.out.cell
  have zs3 := ps3.out.free
  have l5 := S3.av.2 b1 (by simp)
  have l6 := f2.out.size
  replace S3 := Lib.hid S3; replace f3 := Lib.hid f3
  have h12 : (1 : Int) < 2 := by omega
  go_wp2_with fail
  rw [rounds_succ]
  go_wp2_with fail
  obtain ⟨w4, hw4⟩ : ∃ x, w3.setCell ⟨bs, 1, none⟩ (.pointer (some ⟨b1, 0, none⟩)) = x := ⟨_, rfl⟩
  rw [hw4]
  have f4 : Fr [bs] w3 w4 := by rw [← hw4]; exact (Fr.refl _ _).setCell (by simp) _
  have l7 := f3.out.size
  have hne : bs ≠ bw := by omega
  have Q0 : QM bs w4 bs bw (bbOf b0 b1) (sd0 N) (fun _ => []) (fun _ => .slice none 0 0) (fun _ => none) := by
    have hX : xs bs bw (bbOf b0 b1) (fun _ => none) = [bs, bw, b0, b1] := rfl
    have hlt : ∀ y ∈ [bs, bw, b0, b1], y < w4.heap.size := fun y hy => by
      have := f4.size
      simp at hy
      omega
    refine ⟨by rw [← hw4]; exact ps3.out.set' rfl, f4.pt (f3.out.pt (f2.out.pt (f1.out.pt PW.out (by simp)) (by simp; omega)) (by simp)) (by simp; omega), fun i => Row.nil 6 w4 none, fun i => ?_, by rw [hX]; simp; omega, by rw [hX]; simp; omega⟩
    rw [hX]
    cases i
    · have F14 : Fr [bs] w1 w4 := (f2.out.trans (f3.out.mono (by simp))).trans f4
      exact S1.out.go F14 (by simp; omega) (by simp [bbOf]) hlt (by simp; omega)
    · exact S3.out.go f4 (by simp; omega) (by simp [bbOf]) hlt (by simp)
  have B0 : Below bs wh w4 := by
    have G1 : Fr [bs] wh w1 := (FS.out.trans (FW.out.trans f1.out)).mono (by simp)
    have G : Fr [bs] wh w4 := ((G1.trans f2.out).trans (f3.out.mono (by simp))).trans f4
    exact G.below (by omega) (by simp)
  obtain ⟨g0, hg0⟩ : ∃ g, decide (h0 % 7 ≠ 0) = g := ⟨_, rfl⟩
  obtain ⟨g1, hg1⟩ : ∃ g, decide (h1 % 7 ≠ 0) = g := ⟨_, rfl⟩
  have P0 := Ph.start ds.length N g0 g1 hN
  replace Q0 := Lib.hid Q0; replace B0 := Lib.hid B0; replace P0 := Lib.hid P0; replace hg0 := Lib.hid hg0; replace hg1 := Lib.hid hg1
  replace f4 := Lib.hid f4
  clear cs3 zs3 hw4 hws hww hwh
  go_loopg [12] (ds.length + 61) (fun k v wr => ∃ (i : Nat) (sd : Bool → SS) (q : Bool → List Ev) (vv : Bool → Value) (o : Bool → Option Nat), i ≤ ds.length + 60 ∧ k + i = ds.length + 61 ∧ v = .int .i64 i ∧ QM bs wr bs bw (bbOf b0 b1) sd q vv o ∧ Below bs wh wr ∧ Ph ds.length N g0 g1 i sd q)
  case atStart => exact ⟨0, sd0 N, _, _, _, by omega, by omega, rfl, Q0.out, B0.out, P0.out⟩
  case round =>
    obtain ⟨i, sd, q, vv, o', hi, hk, rfl, hQ, hB, hP⟩ := hrel
    by_cases hlt : i < ds.length + 60
    · have hltI : (i : Int) < (ds.length : Int) + 60 := by omega
      obtain ⟨we, hwe⟩ : ∃ x, wr.alloc (.cells #[.int .i64 0, .int .i64 1, .int .i64 0, .int .i64 0, .int .i64 0, .string ⟨#[]⟩] TEv) = x := ⟨_, rfl⟩
      have PE := Pt.newA wr TEv #[.int .i64 0, .int .i64 1, .int .i64 0, .int .i64 0, .int .i64 0, .string ⟨#[]⟩]
      rw [hwe] at PE
      have FE : Fr [] wr we := by rw [← hwe]; exact (Fr.refl [] wr).alloc _
      obtain ⟨be, hbe⟩ : ∃ x, wr.heap.size = x := ⟨_, rfl⟩
      rw [hbe] at PE
      have ce := PE.cell
      have ze := PE.free
      replace hQ := Lib.hid hQ; replace hB := Lib.hid hB; replace hP := Lib.hid hP; replace PE := Lib.hid PE; replace FE := Lib.hid FE; replace hwe := Lib.hid hwe
      have hMod := fun n m (w' : World) (a : 1 ≤ m) (b : m ≤ 1000000) => mod_any n m w' a b
      replace hMod := Lib.hid hMod
      go_upto_if 77 with fail
      rw [hwe.out]
      clear hwe
      go_cut [13, 15, 16, 17] from 64 to 186 (fun t13 _ _ _ wx => ∃ (j : Bool) (e : Ev), t13 = .int .i64 j.toNat ∧ Pt wx be TEv e.cells ∧ Fr [] wr wx ∧ Turn ds.length N g0 g1 i j e)
      case first => as_aux_lemma =>
        rcases (by omega : i < ds.length ∨ i = ds.length ∨ i = ds.length + 1 ∨ ds.length + 2 ≤ i) with c | c | c | c
        · have cI : (i : Int) < ds.length := by omega
          obtain ⟨bd, od, rfl, hbd, hcd⟩ := hl.out i c
          have hcd2 : we.cell? ⟨bd, od + i, none⟩ = some (.int .i64 ds[i]) := by
            rw [FE.out.cell (p := ⟨bd, od + i, none⟩) (by have := hB.out.size; have := FH.out.size; show bd < wr.heap.size; omega) (by simp), hB.out.cell (p := ⟨bd, od + i, none⟩) (by have := FH.out.size; show bd < bs; omega), FH.out.cell (p := ⟨bd, od + i, none⟩) hbd (by simp)]; exact hcd
          obtain ⟨d, hd⟩ : ∃ d, ds[i] = d := ⟨_, rfl⟩
          rw [hd] at hcd2
          clear hcd hd
          have m2 : d % 2 = 0 ∨ d % 2 = 1 := by omega
          go_wp2_with fail
          refine (hMod.out d 2 _ (by omega) (by omega)).mono ?_
          rintro e w5 ⟨rfl, rfl⟩
          go_wp2_with fail
          refine (hMod.out d 5 _ (by omega) (by omega)).mono ?_
          rintro e w5 ⟨rfl, rfl⟩
          by_cases h5 : d % 5 < 2
          · go_wp2_with fail
            go_meet
            case rel =>
              refine ⟨decide (d % 2 = 1), ⟨0, 0, 0, 0, 0, ByteArray.empty⟩, ?_, PE.out.set' rfl, FE.out.setCell (.inr (Nat.le_of_eq hbe)) _, .inl ⟨rfl, .inl c⟩⟩
              rcases m2 with m2 | m2 <;> rw [m2] <;> rfl
          · go_wp2_with fail
            go_meet
            case rel =>
              refine ⟨decide (d % 2 = 1), ptE, ?_, PE.out, FE.out, .inr (.inl ⟨rfl, c⟩)⟩
              rcases m2 with m2 | m2 <;> rw [m2] <;> rfl
        · subst c
          have SJ0 := hP.out.sj false
          have hr0 := hP.out.r0 rfl
          have NU := Lib.hid (numbers_any b0 (sd false) we ((hQ.out.fr0 FE.out).sm false) SJ0.made)
          have cs0 := (FE.out.pt hQ.out.sides (by simp)).cell
          replace SJ0 := Lib.hid SJ0; replace hr0 := Lib.hid hr0
          have hph : Hid (∀ w', Fr [] we w' → ∀ k, w'.cell? ⟨bh, k, none⟩ = [Value.int .i64 h0, .int .i64 h1][k]?) := fun w' f k => (f.pt (FE.out.pt (show Pt wr bh 23 [.int .i64 h0, .int .i64 h1] from (hB.out.block bh (by omega)).trans PH.out) (by simp)) (by simp)).cell k
          have h2 : (ds.length : Int) < (ds.length : Int) + 2 := by omega
          have h3 : (0 : Int) < 2 := by omega
          have hwr0 : IntKind.i64.wrap 0 = 0 := by decide
          go_wp2_with fail
          refine NU.out.mono ?_
          rintro e w5 ⟨rfl, f5⟩
          have PE5 := f5.pt PE.out (by simp)
          have ce5 := PE5.cell
          have ze5 := PE5.free
          have ch5 := hph.out w5 f5
          replace PE5 := Lib.hid PE5; replace f5 := Lib.hid f5
          clear cs0
          go_wp2_with fail
          refine (hMod.out h0 3 _ (by omega) (by omega)).mono ?_
          rintro e w6 ⟨rfl, rfl⟩
          go_upto_region 25 with fail
          have SET : ∀ (w' : World), Pt w' be TEv ptE.cells → ∀ a b, Pt ((((((w'.setCell ⟨be, 0, none⟩ (.int .i64 0)).setCell ⟨be, 1, none⟩ (.int .i64 5)).setCell ⟨be, 2, none⟩ (.int .i64 a)).setCell ⟨be, 3, none⟩ (.int .i64 b)).setCell ⟨be, 4, none⟩ (.int .i64 0)).setCell ⟨be, 5, none⟩ (.string ⟨#[]⟩)) be TEv (beginE b a).cells ∧ Fr [be] w' ((((((w'.setCell ⟨be, 0, none⟩ (.int .i64 0)).setCell ⟨be, 1, none⟩ (.int .i64 5)).setCell ⟨be, 2, none⟩ (.int .i64 a)).setCell ⟨be, 3, none⟩ (.int .i64 b)).setCell ⟨be, 4, none⟩ (.int .i64 0)).setCell ⟨be, 5, none⟩ (.string ⟨#[]⟩)) := fun w' h a b =>
            ⟨(((((h.set' rfl).set' rfl).set' rfl).set' rfl).set' rfl).set' rfl, ((((((Fr.refl _ _).setCell (by simp) _).setCell (by simp) _).setCell (by simp) _).setCell (by simp) _).setCell (by simp) _).setCell (by simp) _⟩
          obtain ⟨PE7, F7⟩ := SET w5 PE5.out (sd false).r (h0 % 3)
          obtain ⟨w7, hw7⟩ : ∃ x, ((((((w5.setCell ⟨be, 0, none⟩ (.int .i64 0)).setCell ⟨be, 1, none⟩ (.int .i64 5)).setCell ⟨be, 2, none⟩ (.int .i64 (sd false).r)).setCell ⟨be, 3, none⟩ (.int .i64 (h0 % 3))).setCell ⟨be, 4, none⟩ (.int .i64 0)).setCell ⟨be, 5, none⟩ (.string ⟨#[]⟩)) = x := ⟨_, rfl⟩
          rw [hw7] at PE7 F7
          rw [hw7]
          rw [hr0.out] at PE7
          clear hw7 ce5 ze5 SET
          have ce7 := PE7.cell
          have ze7 := PE7.free
          have hbl := hB.out.size
          have ch7 : ∀ k, w7.cell? ⟨bh, k, none⟩ = [Value.int .i64 h0, .int .i64 h1][k]? := fun k => by
            rw [F7.cell (p := ⟨bh, k, none⟩) (by have := FE.out.size; have := f5.out.size; show bh < w5.heap.size; omega) (by simp; omega)]; exact ch5 k
          have FB7 : Fr [] wr w7 := (FE.out.trans f5.out).step F7 (by simp; omega)
          replace PE7 := Lib.hid PE7; replace F7 := Lib.hid F7; replace FB7 := Lib.hid FB7
          clear ch5
          go_wp2_with fail
          refine (hMod.out h0 7 _ (by omega) (by omega)).mono ?_
          rintro e w6 ⟨rfl, rfl⟩
          by_cases h7 : h0 % 7 = 0
          · have h7b : (h0 % 7 == 0) = true := by simp [h7]
            replace h7 := Lib.hid h7
            go_wp2_with fail
            go_meet
            case rel => exact ⟨false, ⟨0, 0, N, h0 % 3, 0, ByteArray.empty⟩, rfl, PE7.out.set' rfl, FB7.out.setCell (.inr (Nat.le_of_eq hbe)) _, .inl ⟨rfl, .inr (.inl ⟨rfl, by rw [← hg0.out]; simp [h7.out], rfl⟩)⟩⟩
          · have h7b : (h0 % 7 == 0) = false := by simp [h7]
            replace h7 := Lib.hid h7
            go_wp2_with fail
            go_meet
            case rel => exact ⟨false, _, rfl, PE7.out, FB7.out, .inr (.inr ⟨h0 % 3, by omega, rfl, .inl ⟨rfl, by rw [← hg0.out]; simp [h7.out], rfl⟩⟩)⟩
        · subst c
          have SJ0 := hP.out.sj true
          have hr0 := hP.out.r1 rfl
          have NU := Lib.hid (numbers_any b1 (sd true) we ((hQ.out.fr0 FE.out).sm true) SJ0.made)
          have cs0 := (FE.out.pt hQ.out.sides (by simp)).cell
          replace SJ0 := Lib.hid SJ0; replace hr0 := Lib.hid hr0
          have hph : Hid (∀ w', Fr [] we w' → ∀ k, w'.cell? ⟨bh, k, none⟩ = [Value.int .i64 h0, .int .i64 h1][k]?) := fun w' f k => (f.pt (FE.out.pt (show Pt wr bh 23 [.int .i64 h0, .int .i64 h1] from (hB.out.block bh (by omega)).trans PH.out) (by simp)) (by simp)).cell k
          have h2 : (ds.length : Int) + 1 < (ds.length : Int) + 2 := by omega
          have h2b : ¬ ((ds.length : Int) + 1 < (ds.length : Int)) := by omega
          have h3 : (1 : Int) < 2 := by omega
          have hwr1 : IntKind.i64.wrap 1 = 1 := by decide
          go_wp2_with fail
          refine NU.out.mono ?_
          rintro e w5 ⟨rfl, f5⟩
          have PE5 := f5.pt PE.out (by simp)
          have ce5 := PE5.cell
          have ze5 := PE5.free
          have ch5 := hph.out w5 f5
          replace PE5 := Lib.hid PE5; replace f5 := Lib.hid f5
          clear cs0
          go_wp2_with fail
          refine (hMod.out h1 3 _ (by omega) (by omega)).mono ?_
          rintro e w6 ⟨rfl, rfl⟩
          go_upto_region 25 with fail
          have SET : ∀ (w' : World), Pt w' be TEv ptE.cells → ∀ a b, Pt ((((((w'.setCell ⟨be, 0, none⟩ (.int .i64 0)).setCell ⟨be, 1, none⟩ (.int .i64 5)).setCell ⟨be, 2, none⟩ (.int .i64 a)).setCell ⟨be, 3, none⟩ (.int .i64 b)).setCell ⟨be, 4, none⟩ (.int .i64 0)).setCell ⟨be, 5, none⟩ (.string ⟨#[]⟩)) be TEv (beginE b a).cells ∧ Fr [be] w' ((((((w'.setCell ⟨be, 0, none⟩ (.int .i64 0)).setCell ⟨be, 1, none⟩ (.int .i64 5)).setCell ⟨be, 2, none⟩ (.int .i64 a)).setCell ⟨be, 3, none⟩ (.int .i64 b)).setCell ⟨be, 4, none⟩ (.int .i64 0)).setCell ⟨be, 5, none⟩ (.string ⟨#[]⟩)) := fun w' h a b =>
            ⟨(((((h.set' rfl).set' rfl).set' rfl).set' rfl).set' rfl).set' rfl, ((((((Fr.refl _ _).setCell (by simp) _).setCell (by simp) _).setCell (by simp) _).setCell (by simp) _).setCell (by simp) _).setCell (by simp) _⟩
          obtain ⟨PE7, F7⟩ := SET w5 PE5.out (sd true).r (h1 % 3)
          obtain ⟨w7, hw7⟩ : ∃ x, ((((((w5.setCell ⟨be, 0, none⟩ (.int .i64 0)).setCell ⟨be, 1, none⟩ (.int .i64 5)).setCell ⟨be, 2, none⟩ (.int .i64 (sd true).r)).setCell ⟨be, 3, none⟩ (.int .i64 (h1 % 3))).setCell ⟨be, 4, none⟩ (.int .i64 0)).setCell ⟨be, 5, none⟩ (.string ⟨#[]⟩)) = x := ⟨_, rfl⟩
          rw [hw7] at PE7 F7
          rw [hw7]
          rw [hr0.out] at PE7
          clear hw7 ce5 ze5 SET
          have ce7 := PE7.cell
          have ze7 := PE7.free
          have hbl := hB.out.size
          have ch7 : ∀ k, w7.cell? ⟨bh, k, none⟩ = [Value.int .i64 h0, .int .i64 h1][k]? := fun k => by
            rw [F7.cell (p := ⟨bh, k, none⟩) (by have := FE.out.size; have := f5.out.size; show bh < w5.heap.size; omega) (by simp; omega)]; exact ch5 k
          have FB7 : Fr [] wr w7 := (FE.out.trans f5.out).step F7 (by simp; omega)
          replace PE7 := Lib.hid PE7; replace F7 := Lib.hid F7; replace FB7 := Lib.hid FB7
          clear ch5
          go_wp2_with fail
          refine (hMod.out h1 7 _ (by omega) (by omega)).mono ?_
          rintro e w6 ⟨rfl, rfl⟩
          by_cases h7 : h1 % 7 = 0
          · have h7b : (h1 % 7 == 0) = true := by simp [h7]
            replace h7 := Lib.hid h7
            go_wp2_with fail
            go_meet
            case rel => exact ⟨true, ⟨0, 0, N, h1 % 3, 0, ByteArray.empty⟩, (by show Value.int .i64 ((ds.length : Int) + 1 - ds.length) = .int .i64 1; congr 1; omega), PE7.out.set' rfl, FB7.out.setCell (.inr (Nat.le_of_eq hbe)) _, .inl ⟨rfl, .inr (.inr (.inl ⟨rfl, by rw [← hg1.out]; simp [h7.out], rfl⟩))⟩⟩
          · have h7b : (h1 % 7 == 0) = false := by simp [h7]
            replace h7 := Lib.hid h7
            go_wp2_with fail
            go_meet
            case rel => exact ⟨true, beginE (h1 % 3) N, (by show Value.int .i64 ((ds.length : Int) + 1 - ds.length) = .int .i64 1; congr 1; omega), PE7.out, FB7.out, .inr (.inr ⟨h1 % 3, by omega, rfl, .inr ⟨rfl, by rw [← hg1.out]; simp [h7.out], rfl⟩⟩)⟩
        · have c1 : ¬ (i : Int) < ds.length := by omega
          have c2 : ¬ (i : Int) < (ds.length : Int) + 2 := by omega
          have m2 : (i : Int) % 2 = 0 ∨ (i : Int) % 2 = 1 := by omega
          go_wp2_with fail
          go_meet
          case rel =>
            refine ⟨decide ((i : Int) % 2 = 1), ⟨0, 0, 0, 0, 0, ByteArray.empty⟩, ?_, PE.out.set' rfl, FE.out.setCell (.inr (Nat.le_of_eq hbe)) _, .inl ⟨rfl, .inr (.inr (.inr c))⟩⟩
            rcases m2 with m2 | m2 <;> rw [m2] <;> rfl
      case rest =>
        obtain ⟨j, e, rfl, PX, FX, hT⟩ := hcut
        have QX := hQ.out.fr0 FX
        have hbw2 := hQ.out.lt bw mem_bw
        have hbs2 := hQ.out.lt bs mem_bs
        have hbb2 := fun k => hQ.out.lt (bbOf b0 b1 k) (mem_bb k)
        have hbej : ∀ k, be ≠ bbOf b0 b1 k := fun k => by have := hbb2 k; omega
        have hbew : be ≠ bw := by omega
        obtain ⟨nj, hnj⟩ : ∃ n, j.toNat = n := ⟨_, rfl⟩
        obtain ⟨nk, hnk⟩ : ∃ n, (!j).toNat = n := ⟨_, rfl⟩
        have hnj2 : (nj : Int) < 2 := by rw [← hnj]; cases j <;> decide
        have hnk2 : (nk : Int) < 2 := by rw [← hnk]; cases j <;> decide
        have hsub : (1 : Int) - (nj : Int) = nk := by rw [← hnj, ← hnk]; cases j <;> rfl
        have csx : wc.cell? ⟨bs, nj, none⟩ = some (.pointer (some ⟨bbOf b0 b1 j, 0, none⟩)) := by rw [QX.sides.cell, ← hnj]; exact pair_get (fun k => Value.pointer (some ⟨bbOf b0 b1 k, 0, none⟩)) j
        have cwx : wc.cell? ⟨bw, nj, none⟩ = some (vv j) := by rw [QX.way.cell, ← hnj]; exact pair_get vv j
        have cex := PX.cell
        have zex := PX.free
        rw [hnj]
        have SJj := hP.out.sj j
        obtain ⟨bj, hbj⟩ : ∃ n, bbOf b0 b1 j = n := ⟨_, rfl⟩
        have AS := asked_any bj (sd j) wc (by rw [← hbj]; exact QX.sm j) SJj.made
        rw [hbj] at csx
        by_cases hC : e.kind = 0 ∧ (sd j).kt = false ∧ q j = []
        · obtain ⟨k1, k2, k3⟩ := hC
          have hr := QX.row j
          rw [k3] at hr
          obtain ⟨oz, cz, hvz⟩ := hr.len
          have hvz' : vv j = .slice oz 0 cz := hvz
          rw [hvz'] at cwx
          rw [k2, if_neg (by simp)] at AS
          obtain ⟨way, kind, ea, eb, ec, ed⟩ := e
          dsimp only at k1
          subst k1
          have hact : actK (sd j) (q j) = (sd j, [], []) := by unfold actK; rw [k3, if_neg (by rw [k2]; simp)]
          have hPn := hP.out.k j (by rcases hT with ⟨_, h⟩ | ⟨h, _⟩ | ⟨_, _, h, _⟩; exact h; (simp only [ptE, Ev.mk.injEq] at h; omega); (simp only [beginE, Ev.mk.injEq] at h; omega))
          rw [hact] at hPn
          have e1 : stpS sd j (sd j) = sd := upd_self sd j
          have e2 : stpQ q j [] [] = q := by
            unfold stpQ
            rw [List.append_nil, ← k3, upd_self]; exact upd_self q (!j)
          rw [e1, e2] at hPn
          replace hPn := Lib.hid hPn; replace AS := Lib.hid AS; replace QX := Lib.hid QX; replace hT := Lib.hid hT; replace k3 := Lib.hid k3; replace k2 := Lib.hid k2; replace hvz := Lib.hid hvz; replace hvz' := Lib.hid hvz'; replace hr := Lib.hid hr; replace hact := Lib.hid hact; replace PX := Lib.hid PX; replace FX := Lib.hid FX; replace SJj := Lib.hid SJj
          replace e1 := Lib.hid e1; replace e2 := Lib.hid e2; replace hnj := Lib.hid hnj; replace hnk := Lib.hid hnk; replace hbj := Lib.hid hbj; replace hbb2 := Lib.hid hbb2; replace hbej := Lib.hid hbej
          simp only [Ev.cells] at cex
          go_wp2_with fail
          refine AS.out.mono ?_
          rintro e w5 ⟨rfl, f5⟩
          have Q5 := Lib.hid (QX.out.fr0 f5)
          have cw5 : w5.cell? ⟨bw, nj, none⟩ = some (.slice oz 0 cz) := by rw [Q5.out.way.cell, ← hnj.out, ← hvz'.out]; exact pair_get vv j
          replace f5 := Lib.hid f5
          clear cwx csx cex zex
          go_wp2_with fail
          go_roundg (gk - 1)
          case measure => omega
          case rel => exact ⟨i + 1, sd, q, vv, o', by omega, by omega, by go_num, Q5.out, hB.out.trans ((FX.out.trans f5.out).below (by omega) (by simp)), hPn.out⟩
        · simp only [Ev.cells] at cex
          go_upto_if 125 with fail
          go_cut [18, 19, 20] from 64 to 186 (fun _ _ _ wx => ∃ (e2 : Ev) (q2 : Bool → List Ev) (v2 : Bool → Value) (o2 : Bool → Option Nat), Pt wx be TEv e2.cells ∧ QM bs wx bs bw (bbOf b0 b1) sd q2 v2 o2 ∧ Below bs wh wx ∧ Ph ds.length N g0 g1 (i + 1) (stpS sd j (onS (sd j) e2).1) (upd q2 (!j) (q2 (!j) ++ downs (onS (sd j) e2).2.1)) ∧ (q2 (!j)).length ≤ i)
          case first => as_aux_lemma =>
            have hBX : Below bs wh wc := hB.out.trans (FX.below (by omega) (by simp))
            by_cases hk0 : e.kind = 0
            · have hcond : i < ds.length ∨ (i = ds.length ∧ g0 = false ∧ j = false) ∨ (i = ds.length + 1 ∧ g1 = false ∧ j = true) ∨ ds.length + 2 ≤ i := by
                rcases hT with ⟨_, h⟩ | ⟨h, _⟩ | ⟨_, _, h, _⟩
                · exact h
                · rw [h] at hk0; simp [ptE] at hk0
                · rw [h] at hk0; simp [beginE] at hk0
              have hPn := hP.out.k j hcond
              obtain ⟨way, kind, ea, eb, ec, ed⟩ := e
              dsimp only at hk0
              subst hk0
              cases hkt : (sd j).kt
              · -- the head of the row is taken
                rw [hkt, if_neg (by simp)] at AS
                cases hqj : q j with
                | nil => exact absurd ⟨rfl, hkt, hqj⟩ hC
                | cons e3 t3 =>
                  have hact : actK (sd j) (q j) = ((onS (sd j) e3).1, t3, downs (onS (sd j) e3).2.1) := by unfold actK; rw [hkt, hqj, if_neg (by simp)]
                  rw [hact] at hPn
                  have hjj : (!j) ≠ j := by cases j <;> simp
                  have e2 : stpQ q j t3 (downs (onS (sd j) e3).2.1) = upd (upd q j t3) (!j) (upd q j t3 (!j) ++ downs (onS (sd j) e3).2.1) := by unfold stpQ; rw [upd_other q j (!j) t3 hjj]
                  dsimp only at hPn
                  rw [e2] at hPn
                  have hlq : (upd q j t3 (!j)).length ≤ i := by rw [upd_other q j (!j) t3 hjj]; exact hP.out.len (!j)
                  obtain ⟨bq, oq, cap2, hv, hcap, hbl, hbw3, hcells, hLEFT⟩ := hQ.out.pop j hqj
                  rw [hnj] at hLEFT
                  have CQ : ∀ w', Fr [] wr w' → ∀ k, k < 6 → w'.cell? ⟨bq, oq + k, none⟩ = e3.cells[k]? := fun w' f k hk => by
                    rw [f.cell (p := ⟨bq, oq + k, none⟩) hbl (by simp)]; exact hcells k hk
                  have CW : ∀ w', Fr [] wr w' → w'.cell? ⟨bw, nj, none⟩ = some (.slice (some ⟨bq, oq, none⟩) (t3.length + 1) cap2) ∧ w'.frozen? ⟨bw, nj, none⟩ = false := fun w' f => by
                    have hh := f.pt hQ.out.way (by simp)
                    exact ⟨by rw [hh.cell, ← hnj, ← hv]; exact pair_get vv j, hh.free nj⟩
                  rw [hv] at cwx
                  have h0 : (0 : Int) < ((t3.length + 1 : Nat) : Int) := by omega
                  have hwr0 : IntKind.i64.wrap 0 = 0 := by decide
                  replace hPn := Lib.hid hPn; replace AS := Lib.hid AS; replace QX := Lib.hid QX; replace hT := Lib.hid hT; replace hkt := Lib.hid hkt; replace hact := Lib.hid hact; replace PX := Lib.hid PX; replace FX := Lib.hid FX; replace SJj := Lib.hid SJj
                  replace e2 := Lib.hid e2; replace hnj := Lib.hid hnj; replace hnk := Lib.hid hnk; replace hbj := Lib.hid hbj; replace hbb2 := Lib.hid hbb2; replace hbej := Lib.hid hbej; replace hBX := Lib.hid hBX; replace hC := Lib.hid hC; replace hlq := Lib.hid hlq; replace hqj := Lib.hid hqj; replace hv := Lib.hid hv; replace hcells := Lib.hid hcells; replace hLEFT := Lib.hid hLEFT; replace CQ := Lib.hid CQ; replace CW := Lib.hid CW; replace hjj := Lib.hid hjj
                  go_wp2_with fail
                  refine AS.out.mono ?_
                  rintro e w5 ⟨rfl, f5⟩
                  have F05 := FX.out.trans f5
                  have PX5 := f5.pt PX.out (by simp)
                  have ze5 := PX5.free
                  have ce5 := PX5.cell
                  simp only [Ev.cells] at ce5
                  have cw5 := (CW.out w5 F05).1
                  have c0 := CQ.out w5 F05 0 (by omega); have c1 := CQ.out w5 F05 1 (by omega); have c2 := CQ.out w5 F05 2 (by omega); have c3 := CQ.out w5 F05 3 (by omega); have c4 := CQ.out w5 F05 4 (by omega); have c5 := CQ.out w5 F05 5 (by omega)
                  obtain ⟨xw, xk, xa, xb, xc, xd⟩ := e3
                  simp only [Ev.cells, Nat.add_zero, List.getElem?_cons_zero, List.getElem?_cons_succ] at c0 c1 c2 c3 c4 c5
                  have SET : Pt ((((((w5.setCell ⟨be, 0, none⟩ (.int .i64 xw)).setCell ⟨be, 1, none⟩ (.int .i64 xk)).setCell ⟨be, 2, none⟩ (.int .i64 xa)).setCell ⟨be, 3, none⟩ (.int .i64 xb)).setCell ⟨be, 4, none⟩ (.int .i64 xc)).setCell ⟨be, 5, none⟩ (.string xd)) be TEv (Ev.cells ⟨xw, xk, xa, xb, xc, xd⟩) := (((((PX5.set' rfl).set' rfl).set' rfl).set' rfl).set' rfl).set' rfl
                  obtain ⟨w6, hw6⟩ : ∃ x, ((((((w5.setCell ⟨be, 0, none⟩ (.int .i64 xw)).setCell ⟨be, 1, none⟩ (.int .i64 xk)).setCell ⟨be, 2, none⟩ (.int .i64 xa)).setCell ⟨be, 3, none⟩ (.int .i64 xb)).setCell ⟨be, 4, none⟩ (.int .i64 xc)).setCell ⟨be, 5, none⟩ (.string xd)) = x := ⟨_, rfl⟩
                  have F6 : Fr [be] w5 w6 := by rw [← hw6]; exact ((((((Fr.refl _ _).setCell (by simp) _).setCell (by simp) _).setCell (by simp) _).setCell (by simp) _).setCell (by simp) _).setCell (by simp) _
                  rw [hw6] at SET
                  have F06 : Fr [] wr w6 := F05.step F6 (by simp; omega)
                  obtain ⟨cw6, zw6⟩ := CW.out w6 F06
                  replace hw6 := Lib.hid hw6
                  replace PX5 := Lib.hid PX5; replace SET := Lib.hid SET; replace f5 := Lib.hid f5; replace F05 := Lib.hid F05; replace F6 := Lib.hid F6; replace F06 := Lib.hid F06
                  clear cwx csx cex zex
                  go_upto_region 34 with fail
                  rw [hw6.out]
                  clear ce5 ze5 cw5 c0 c1 c2 c3 c4 c5
                  by_cases hc1 : cap2 = 1
                  · have LEFT1 := hLEFT.out w6 F06.out _ (if_pos hc1).symm
                    subst hc1
                    obtain rfl : t3 = [] := by cases t3 with | nil => rfl | cons _ _ => simp at hcap
                    simp only [List.length_nil] at LEFT1
                    replace LEFT1 := Lib.hid LEFT1
                    go_wp2_with fail
                    go_meet
                    case rel =>
                      obtain ⟨⟨o2, HL⟩, HB⟩ := LEFT1.out
                      exact ⟨_, _, _, _, SET.out.ne (p := ⟨bw, nj, none⟩) hbew _, HL, hB.out.trans HB, hPn.out, hlq.out⟩
                  · have LEFT1 := hLEFT.out w6 F06.out _ (if_neg hc1).symm
                    replace LEFT1 := Lib.hid LEFT1
                    have hc2 : (cap2 - 1 = 0) = False := by simp only [eq_iff_iff, iff_false]; omega
                    have hc3 : ¬ cap2 ≤ 1 := by omega
                    go_wp2_with fail
                    go_meet
                    case rel =>
                      obtain ⟨⟨o2, HL⟩, HB⟩ := LEFT1.out
                      exact ⟨_, _, _, _, SET.out.ne (p := ⟨bw, nj, none⟩) hbew _, HL, hB.out.trans HB, hPn.out, hlq.out⟩
              · rw [hkt, if_pos rfl] at AS
                have hact : actK (sd j) (q j) = ((onS (sd j) (replyE (sd j).kn)).1, q j, downs (onS (sd j) (replyE (sd j).kn)).2.1) := by unfold actK; rw [if_pos hkt]
                rw [hact] at hPn
                have e2 : stpQ q j (q j) (downs (onS (sd j) (replyE (sd j).kn)).2.1) = upd q (!j) (q (!j) ++ downs (onS (sd j) (replyE (sd j).kn)).2.1) := by unfold stpQ; rw [upd_self]
                dsimp only at hPn
                rw [e2] at hPn
                obtain ⟨kh, hkh⟩ : ∃ x, (sd j).kh = x := ⟨_, rfl⟩
                obtain ⟨kn, hkn⟩ : ∃ x, (sd j).kn = x := ⟨_, rfl⟩
                rw [hkn] at hPn
                rw [hkh, hkn] at AS
                have hlq := hP.out.len (!j)
                replace hPn := Lib.hid hPn; replace AS := Lib.hid AS; replace QX := Lib.hid QX; replace hT := Lib.hid hT; replace hkt := Lib.hid hkt; replace hact := Lib.hid hact; replace PX := Lib.hid PX; replace FX := Lib.hid FX; replace SJj := Lib.hid SJj
                replace e2 := Lib.hid e2; replace hnj := Lib.hid hnj; replace hnk := Lib.hid hnk; replace hbj := Lib.hid hbj; replace hbb2 := Lib.hid hbb2; replace hbej := Lib.hid hbej; replace hBX := Lib.hid hBX; replace hC := Lib.hid hC; replace hkh := Lib.hid hkh; replace hkn := Lib.hid hkn; replace hlq := Lib.hid hlq
                go_wp2_with fail
                refine AS.out.mono ?_
                rintro e w5 ⟨rfl, f5⟩
                have Q5 := Lib.hid (QX.out.fr0 f5)
                have PX5 := f5.pt PX.out (by simp)
                have ze5 := PX5.free
                have ce5 := PX5.cell
                simp only [Ev.cells] at ce5
                have B5 := Lib.hid (hBX.out.trans (f5.below (n := bs) (by have := FX.out.size; omega) (by simp)))
                have SET : Pt ((((((w5.setCell ⟨be, 0, none⟩ (.int .i64 0)).setCell ⟨be, 1, none⟩ (.int .i64 7)).setCell ⟨be, 2, none⟩ (.int .i64 kn)).setCell ⟨be, 3, none⟩ (.int .i64 0)).setCell ⟨be, 4, none⟩ (.int .i64 0)).setCell ⟨be, 5, none⟩ (.string ⟨#[]⟩)) be TEv (replyE kn).cells := (((((PX5.set' rfl).set' rfl).set' rfl).set' rfl).set' rfl).set' rfl
                replace PX5 := Lib.hid PX5; replace SET := Lib.hid SET; replace f5 := Lib.hid f5
                clear cwx csx cex zex
                go_wp2_with fail
                go_meet
                case rel =>
                  obtain ⟨w7, hw7⟩ : ∃ x, ((((((w5.setCell ⟨be, 0, none⟩ (.int .i64 0)).setCell ⟨be, 1, none⟩ (.int .i64 7)).setCell ⟨be, 2, none⟩ (.int .i64 kn)).setCell ⟨be, 3, none⟩ (.int .i64 0)).setCell ⟨be, 4, none⟩ (.int .i64 0)).setCell ⟨be, 5, none⟩ (.string ⟨#[]⟩)) = x := ⟨_, rfl⟩
                  have F7 : Fr [be] w5 w7 := by rw [← hw7]; exact ((((((Fr.refl _ _).setCell (by simp) _).setCell (by simp) _).setCell (by simp) _).setCell (by simp) _).setCell (by simp) _).setCell (by simp) _
                  have F07 : Fr [] wr w7 := (FX.out.trans f5.out).step F7 (by simp; omega)
                  exact ⟨replyE kn, q, vv, o', SET.out, by rw [hw7]; exact hQ.out.fr0 F07, by rw [hw7]; exact hB.out.trans (F07.below (by omega) (by simp)), hPn.out, hlq.out⟩
            · have hPn : Ph ds.length N g0 g1 (i + 1) (stpS sd j (onS (sd j) e).1) (stpQ q j (q j) (downs (onS (sd j) e).2.1)) := by
                rcases hT with ⟨h, _⟩ | ⟨rfl, hi1⟩ | ⟨how, hh, rfl, ⟨h1, h2, rfl⟩ | ⟨h1, h2, rfl⟩⟩
                · exact absurd h hk0
                · exact hP.out.pt j hi1
                · exact hP.out.ask0 h1 h2 hN hh
                · exact hP.out.ask1 h1 h2 hN hh
              have e2 : stpQ q j (q j) (downs (onS (sd j) e).2.1) = upd q (!j) (q (!j) ++ downs (onS (sd j) e).2.1) := by unfold stpQ; rw [upd_self]
              rw [e2] at hPn
              have hlq := hP.out.len (!j)
              have hk0b : (e.kind == 0) = false := by simpa using hk0
              replace hPn := Lib.hid hPn; replace AS := Lib.hid AS; replace QX := Lib.hid QX; replace hT := Lib.hid hT; replace PX := Lib.hid PX; replace FX := Lib.hid FX; replace SJj := Lib.hid SJj
              replace e2 := Lib.hid e2; replace hnj := Lib.hid hnj; replace hnk := Lib.hid hnk; replace hbj := Lib.hid hbj; replace hbb2 := Lib.hid hbb2; replace hbej := Lib.hid hbej; replace hBX := Lib.hid hBX; replace hC := Lib.hid hC; replace hlq := Lib.hid hlq; replace hk0 := Lib.hid hk0
              go_wp2_with fail
              go_meet
              case rel => exact ⟨e, q, vv, o', PX.out, QX.out, hBX.out, hPn.out, hlq.out⟩
          case rest =>
            obtain ⟨e2, q2, v2, o2, PX2, Q2, B2, P2, L2⟩ := hcut
            clear QX AS hT cwx csx cex zex PX FX hC
            have hbw4 := Q2.lt bw mem_bw
            have hbs4 := Q2.lt bs mem_bs
            have hbj4 := Q2.lt (bbOf b0 b1 j) (mem_bb j)
            have hne2 := Q2.ne
            rw [hbj] at hbj4
            have hON := Lib.hid (on_any bj (sd j) e2 wc.drew (by rw [← hbj]; exact (Q2.fr0 (Fr.refl [] wc).drew).sm j) ((hP.out.sj j).si (by omega)))
            have hS : ∀ w', Fr [bj] wc.drew w' → (w'.cell? ⟨bs, nj, none⟩ = some (.pointer (some ⟨bj, 0, none⟩)) ∧ w'.cell? ⟨be, 0, none⟩ = some (.int .i64 e2.way) ∧ w'.cell? ⟨be, 1, none⟩ = some (.int .i64 e2.kind) ∧ w'.cell? ⟨be, 2, none⟩ = some (.int .i64 e2.a) ∧ w'.cell? ⟨be, 3, none⟩ = some (.int .i64 e2.b) ∧ w'.cell? ⟨be, 4, none⟩ = some (.int .i64 e2.c) ∧ w'.cell? ⟨be, 5, none⟩ = some (.string e2.data)) := fun w' hf => by
              have c1 := (hf.pt Q2.sides.drew (by simp; rw [← hbj]; exact (hne2.2.1 j).1)).cell
              have c2 := (hf.pt PX2.drew (by simp; rw [← hbj]; exact hbej j)).cell
              refine ⟨?_, ?_, ?_, ?_, ?_, ?_, ?_⟩
              · rw [c1, ← hnj, ← hbj]; exact pair_get (fun k => Value.pointer (some ⟨bbOf b0 b1 k, 0, none⟩)) j
              all_goals (rw [c2]; rfl)
            have hS00 := Lib.hid (hS _ (Fr.refl _ _))
            obtain ⟨R, hR⟩ : ∃ x, onS (sd j) e2 = x := ⟨_, rfl⟩
            have hone := on_one (sd j) e2
            rw [hR] at hON P2 hone
            obtain ⟨s', L, cd⟩ := R
            dsimp only at hON P2 hone
            obtain ⟨way, kind, ea, eb, ec, ed⟩ := e2
            dsimp only [Ev.val] at hON hS hS00
            replace hS := Lib.hid hS; replace PX2 := Lib.hid PX2; replace Q2 := Lib.hid Q2; replace B2 := Lib.hid B2; replace P2 := Lib.hid P2; replace hne2 := Lib.hid hne2; replace SJj := Lib.hid SJj; replace hR := Lib.hid hR; replace hone := Lib.hid hone
            replace hnj := Lib.hid hnj; replace hnk := Lib.hid hnk; replace hbj := Lib.hid hbj; replace hbb2 := Lib.hid hbb2; replace hbej := Lib.hid hbej; replace L2 := Lib.hid L2
            go_wp2_with fail
            go_region_held3 (fun w' => w'.cell? ⟨bs, nj, none⟩ = some (.pointer (some ⟨bj, 0, none⟩)) ∧ w'.cell? ⟨be, 0, none⟩ = some (.int .i64 way) ∧ w'.cell? ⟨be, 1, none⟩ = some (.int .i64 kind) ∧ w'.cell? ⟨be, 2, none⟩ = some (.int .i64 ea) ∧ w'.cell? ⟨be, 3, none⟩ = some (.int .i64 eb) ∧ w'.cell? ⟨be, 4, none⟩ = some (.int .i64 ec) ∧ w'.cell? ⟨be, 5, none⟩ = some (.string ed))
              (first | exact hS00.out | exact hS.out _ f3.out) (first | (go_at_call 13; refine hON.out.mono ?_; rintro r w3 ⟨⟨v, rfl, hv⟩, p3, f3⟩; replace hv := Lib.hid hv; replace p3 := Lib.hid p3; replace f3 := Lib.hid f3))
            have f3' : Fr [bbOf b0 b1 j] wc w3 := by rw [hbj.out]; exact ((Fr.refl [bj] wc).drew).trans f3.out
            have Q3 := Q2.out.on j (s' := s') (by rw [hbj.out]; exact p3.out) f3'
            have B3 := B2.out.trans (Q2.out.below f3' (by intro x hx; rw [List.mem_singleton.mp hx]; exact mem_bb j))
            have l10 := f3'.size
            replace f3' := Lib.hid f3'
            rcases hv.out with ⟨rfl, rfl⟩ | ⟨B, x, rfl, rfl, hx, hBB⟩
            · have P3 := P2.out
              rw [show downs [] = [] from rfl, List.append_nil, upd_self] at P3
              replace P3 := Lib.hid P3; replace Q3 := Lib.hid Q3; replace B3 := Lib.hid B3
              clear hON hS hS00
              go_wp2_with fail
              refine wp_loop_once ?_
              go_wp2_with fail
              go_roundg (gk - 1)
              case measure => omega
              case rel => exact ⟨i + 1, upd sd j s', q2, v2, o2, by omega, by omega, by go_num, Q3.out, B3.out, P3.out⟩
            · have cx := hx.cell
              by_cases hxw : (x.way == 1) = true
              · have hD : downs [x] = [x] := by simp [downs, hxw]
                have P3 := P2.out
                rw [hD] at P3
                have hlen := L2.out
                obtain ⟨wy, hwy⟩ : ∃ y, w3.drew.alloc (.cells x.cells.toArray TEv) = y := ⟨_, rfl⟩
                have PY := Pt.newA w3.drew TEv x.cells.toArray
                rw [hwy] at PY
                have FY : Fr [] w3 wy := by rw [← hwy]; exact (Fr.refl [] w3).drew.alloc _
                have hsrc : Src Try.prog 6 27 (.slice (some ⟨w3.drew.heap.size, 0, none⟩) 1 1) 1 x.cells wy := Src.ofSlice wy uEvs' ⟨w3.drew.heap.size, 0, none⟩ 1 1 x.cells rfl (fun j u hu => by rw [Addr.add_lit, PY.cell, Nat.zero_add]; exact hu) (by intro u hu; simp [Ev.cells] at hu; rcases hu with rfl | rfl | rfl | rfl | rfl | rfl <;> rfl)
                obtain ⟨oo, cc, wz, o4, hrun, fz, PWZ, QZ, BZ⟩ := (Q3.fr0 FY).push (!j) x (by omega) hsrc
                have hm4 : w3.drew.cell? ⟨bw, nk, none⟩ = some (v2 (!j)) := by rw [Q3.way.drew.cell, ← hnk.out]; exact pair_get v2 (!j)
                have hmy : wy.cell? ⟨bw, nk, none⟩ = some (v2 (!j)) := by rw [(FY.pt Q3.way (by simp)).cell, ← hnk.out]; exact pair_get v2 (!j)
                have cfz := PWZ.cell
                have cfn : (wz.cell? ⟨bw, nk, none⟩).isSome = true := by rw [cfz, ← hnk.out, pair_get]; rfl
                have ffz := PWZ.free
                have cfk : wz.cell? ⟨bw, nk, none⟩ = some (v2 (!j)) := by rw [cfz, ← hnk.out]; exact pair_get v2 (!j)
                obtain ⟨by_, hby⟩ : ∃ y, w3.heap.size = y := ⟨_, rfl⟩
                rw [show w3.drew.heap.size = by_ from hby] at hrun
                rw [hnk.out] at QZ BZ
                have B4 := B3.trans ((FY.below (n := bs) (by have := Q3.lt bs mem_bs; omega) (by simp)).trans BZ)
                obtain ⟨xw, xk, xa, xb, xc, xd⟩ := x
                have h01 : (0 : Int) < 1 := by omega
                have hwr : IntKind.i64.wrap 1 = 1 := by decide
                have hwr0 : IntKind.i64.wrap 0 = 0 := by decide
                have hnkw : IntKind.i64.wrap (nk : Int) = nk := by rw [IntKind.wrap_i64]; omega
                have hsubw : IntKind.i64.wrap (1 - (nj : Int)) = nk := by rw [hsub]; exact hnkw
                have hnk0 : (0 : Int) ≤ (nk : Int) := by omega
                simp only [Ev.cells] at cx hwy
                obtain ⟨vk, hvk⟩ : ∃ y, v2 (!j) = y := ⟨_, rfl⟩
                rw [hvk] at hrun hm4 hmy cfk
                obtain ⟨nl, hnl⟩ : ∃ y, (q2 (!j)).length + 1 = y := ⟨_, rfl⟩
                rw [hnl] at hrun QZ B4
                replace P3 := Lib.hid P3; replace Q3 := Lib.hid Q3; replace B3 := Lib.hid B3; replace hx := Lib.hid hx; replace PY := Lib.hid PY; replace FY := Lib.hid FY; replace hsrc := Lib.hid hsrc; replace hrun := Lib.hid hrun; replace fz := Lib.hid fz; replace PWZ := Lib.hid PWZ; replace QZ := Lib.hid QZ; replace B4 := Lib.hid B4; replace BZ := Lib.hid BZ; replace hD := Lib.hid hD; replace hvk := Lib.hid hvk; replace hnl := Lib.hid hnl; replace hlen := Lib.hid hlen
                clear hON hS hS00 cfz cfn
                dsimp only at hxw
                go_wp2_with fail
                refine wp_loop_rounds 2 ?_
                rw [rounds_succ]
                go_wp2_with fail
                go_region_law (first | (refine step_append_run rfl _ _ _ rfl (v := vk) rfl (xv := .slice (some ⟨by_, 0, none⟩) 1 1) rfl hrun.out ?_))
                all_goals
                  go_wp2_with fail
                  rw [rounds_succ]
                  go_wp2_with fail
                  go_roundg (gk - 1)
                  case measure => omega
                  case rel => exact ⟨i + 1, upd sd j s', _, _, _, by omega, by omega, by go_num, QZ.out, B4.out, P3.out⟩
              · have hD : downs [x] = [] := by simp [downs, hxw]
                have P3 := P2.out
                rw [hD, List.append_nil, upd_self] at P3
                have hxw' : (x.way == 1) = false := by simpa using hxw
                have h01 : (0 : Int) < 1 := by omega
                obtain ⟨xw, xk, xa, xb, xc, xd⟩ := x
                simp only [Ev.cells] at cx
                replace P3 := Lib.hid P3; replace Q3 := Lib.hid Q3; replace B3 := Lib.hid B3; replace hx := Lib.hid hx; replace hD := Lib.hid hD
                clear hON hS hS00
                dsimp only at hxw hxw'
                go_wp2_with fail
                refine wp_loop_rounds 2 ?_
                rw [rounds_succ]
                go_wp2_with fail
                rw [rounds_succ]
                go_wp2_with fail
                go_roundg (gk - 1)
                case measure => omega
                case rel => exact ⟨i + 1, upd sd j s', q2, v2, o2, by omega, by omega, by go_num, Q3.out, B3.out, P3.out⟩
    · as_aux_lemma =>
      have hie : i = ds.length + 60 := by omega
      have hltI : ¬ (i : Int) < (ds.length : Int) + 60 := by omega
      replace hQ := Lib.hid hQ; replace hB := Lib.hid hB; replace hP := Lib.hid hP
      have csx := hQ.out.sides.cell
      have cwx := hQ.out.way.cell
      obtain ⟨oa, ka, ha⟩ := (hQ.out.row false).len
      obtain ⟨ob, kb, hb⟩ := (hQ.out.row true).len
      rw [ha, hb] at cwx
      have h02 : (0 : Int) < 2 := by omega
      have h12 : (1 : Int) < 2 := by omega
      have hOUT : ∀ w', Fr [] wr w' → Fr [] w w' := fun w' f => by
        have := (hB.out.trans (f.below (n := bs) (by have := hQ.out.lt bs mem_bs; omega) (by simp)))
        exact FH.out.trans (Fr.ofBelow (by rw [hbs]; exact this))
      have hAS0 := Lib.hid (fun w' (f : Fr [] wr w') => asked_any b0 (sd false) w' ((hQ.out.fr0 f).sm false) (hP.out.sj false).made)
      have hAS1 := Lib.hid (fun w' (f : Fr [] wr w') => asked_any b1 (sd true) w' ((hQ.out.fr0 f).sm true) (hP.out.sj true).made)
      have hSC := Lib.hid (fun w' (f : Fr [] wr w') => (f.pt hQ.out.sides (by simp)).cell)
      have hHC := Lib.hid (fun w' (f : Fr [] wr w') => (f.pt (show Pt wr bh 23 [.int .i64 h0, .int .i64 h1] from (hB.out.block bh (by omega)).trans PH.out) (by simp)).cell)
      obtain ⟨la, hla⟩ : ∃ n, (q false).length = n := ⟨_, rfl⟩
      obtain ⟨lb, hlb⟩ : ∃ n, (q true).length = n := ⟨_, rfl⟩
      rw [hla, hlb] at cwx
      have hMod := fun n m (w' : World) (a : 1 ≤ m) (b : m ≤ 1000000) => mod_any n m w' a b
      replace hMod := Lib.hid hMod
      replace hla := Lib.hid hla; replace hlb := Lib.hid hlb
      replace ha := Lib.hid ha; replace hb := Lib.hid hb; replace hOUT := Lib.hid hOUT
      clear hie
      have hii : Hid (ds.length + 2 ≤ i) := (by omega : ds.length + 2 ≤ i)
      rcases (by omega : 0 < la ∨ (la = 0 ∧ 0 < lb) ∨ (la = 0 ∧ lb = 0)) with c | ⟨rfl, c⟩ | ⟨rfl, rfl⟩
      · have c1 : (0 : Int) < la := by omega
        go_wp2_with fail
        refine (sane_any _).mono ?_
        rintro e w9 ⟨rfl, f9⟩
        have F9 := Lib.hid (hOUT.out w9 f9)
        clear f9
        go_wp2_with fail
        go_ret
        exact ⟨rfl, F9.out⟩
      · have c1 : (0 : Int) < lb := by omega
        go_wp2_with fail
        refine (sane_any _).mono ?_
        rintro e w9 ⟨rfl, f9⟩
        have F9 := Lib.hid (hOUT.out w9 f9)
        clear f9
        go_wp2_with fail
        go_ret
        exact ⟨rfl, F9.out⟩
      · have A0 := hAS0.out wr (Fr.refl _ _)
        have hWA := Lib.hid (fun w' (f : Fr [] wr w') => waits_any b0 (sd false) w' ((hQ.out.fr0 f).sm false) (hP.out.sj false).made)
        have hWB := Lib.hid (fun w' (f : Fr [] wr w') => waits_any b1 (sd true) w' ((hQ.out.fr0 f).sm true) (hP.out.sj true).made)
        have hNA := Lib.hid (fun w' (f : Fr [] wr w') => numbers_any b0 (sd false) w' ((hQ.out.fr0 f).sm false) (hP.out.sj false).made)
        have hNB := Lib.hid (fun w' (f : Fr [] wr w') => numbers_any b1 (sd true) w' ((hQ.out.fr0 f).sm true) (hP.out.sj true).made)
        cases hk0 : (sd false).kt
        · rw [hk0, if_neg (by simp)] at A0
          replace A0 := Lib.hid A0
          replace hk0 := Lib.hid hk0
          go_wp2_with fail
          refine wp_loop_rounds 3 ?_
          rw [rounds_succ]
          go_wp2_with fail
          refine A0.out.mono ?_
          rintro e w5 ⟨rfl, f5⟩
          have A1 := hAS1.out w5 f5
          have cs5 := hSC.out w5 f5
          replace f5 := Lib.hid f5
          clear csx cwx
          cases hk1 : (sd true).kt
          · rw [hk1, if_neg (by simp)] at A1
            replace A1 := Lib.hid A1; replace hk1 := Lib.hid hk1
            go_wp2_with fail
            rw [rounds_succ]
            go_wp2_with fail
            refine A1.out.mono ?_
            rintro e w6 ⟨rfl, f6⟩
            have f56 := f5.out.trans f6
            have cs6 := hSC.out w6 f56
            have ch6 := hHC.out w6 f56
            replace f6 := Lib.hid f6; replace f56 := Lib.hid f56
            clear cs5
            go_wp2_with fail
            rw [rounds_succ]
            go_wp2_with fail
            refine (hMod.out h0 7 _ (by omega) (by omega)).mono ?_
            rintro e w7 ⟨rfl, rfl⟩
            by_cases z0 : h0 % 7 = 0
            · have z0b : (h0 % 7 == 0) = true := by simp [z0]
              replace z0 := Lib.hid z0
              go_wp2_with fail
              refine (hMod.out h1 7 _ (by omega) (by omega)).mono ?_
              rintro e w7 ⟨rfl, rfl⟩
              by_cases z1 : h1 % 7 = 0
              · have z1b : (h1 % 7 == 0) = true := by simp [z1]
                replace z1 := Lib.hid z1
                go_wp2_with fail
                refine (sane_any _).mono ?_
                rintro e w9 ⟨rfl, f9⟩
                have F9 := Lib.hid (hOUT.out w9 (f56.out.trans f9))
                clear f9
                go_wp2_with fail
                go_ret
                exact ⟨rfl, F9.out⟩
              · have z1b : (h1 % 7 == 0) = false := by simp [z1]
                replace z1 := Lib.hid z1
                go_wp2_with fail
                have hG : Hid ((g0 || g1) = true) := by
                  show _ = true
                  rw [← hg0.out, ← hg1.out]; have := z1.out; simp; omega
                have DONE := Lib.hid (hP.out.done hii.out hG.out (fun k => by cases k; exact List.eq_nil_of_length_eq_zero hla.out; exact List.eq_nil_of_length_eq_zero hlb.out) (fun k => by cases k; exact hk0.out; exact hk1.out))
                refine (hNA.out w6 f56.out).mono ?_
                rintro e w7 ⟨rfl, f7⟩
                have f67 := f56.out.trans f7
                have cs7 := hSC.out w7 f67
                replace f7 := Lib.hid f7; replace f67 := Lib.hid f67
                clear cs6 ch6
                go_wp2_with fail
                refine (hNB.out w7 f67.out).mono ?_
                rintro e w8 ⟨rfl, f8⟩
                have f68 := f67.out.trans f8
                have cs8 := hSC.out w8 f68
                have W1 := hWA.out w8 f68
                have W2 := hWB.out w8 f68
                rw [DONE.out.2 false] at W1
                rw [DONE.out.2 true] at W2
                rw [DONE.out.1]
                replace W1 := Lib.hid W1; replace W2 := Lib.hid W2
                replace f8 := Lib.hid f8; replace f68 := Lib.hid f68
                clear cs7
                go_wp2_with fail
                refine W1.out.mono ?_
                rintro e w9 ⟨rfl, rfl⟩
                go_wp2_with fail
                refine W2.out.mono ?_
                rintro e w9 ⟨rfl, rfl⟩
                go_wp2_with fail
                refine (sane_any _).mono ?_
                rintro e w9 ⟨rfl, f9⟩
                have F9 := Lib.hid (hOUT.out w9 (f68.out.trans f9))
                clear f9
                go_wp2_with fail
                go_ret
                exact ⟨rfl, F9.out⟩
            · have z0b : (h0 % 7 == 0) = false := by simp [z0]
              replace z0 := Lib.hid z0
              go_wp2_with fail
              have hG : Hid ((g0 || g1) = true) := by
                show _ = true
                rw [← hg0.out, ← hg1.out]; have := z0.out; simp; omega
              have DONE := Lib.hid (hP.out.done hii.out hG.out (fun k => by cases k; exact List.eq_nil_of_length_eq_zero hla.out; exact List.eq_nil_of_length_eq_zero hlb.out) (fun k => by cases k; exact hk0.out; exact hk1.out))
              refine (hNA.out w6 f56.out).mono ?_
              rintro e w7 ⟨rfl, f7⟩
              have f67 := f56.out.trans f7
              have cs7 := hSC.out w7 f67
              replace f7 := Lib.hid f7; replace f67 := Lib.hid f67
              clear cs6 ch6
              go_wp2_with fail
              refine (hNB.out w7 f67.out).mono ?_
              rintro e w8 ⟨rfl, f8⟩
              have f68 := f67.out.trans f8
              have cs8 := hSC.out w8 f68
              have W1 := hWA.out w8 f68
              have W2 := hWB.out w8 f68
              rw [DONE.out.2 false] at W1
              rw [DONE.out.2 true] at W2
              rw [DONE.out.1]
              replace W1 := Lib.hid W1; replace W2 := Lib.hid W2
              replace f8 := Lib.hid f8; replace f68 := Lib.hid f68
              clear cs7
              go_wp2_with fail
              refine W1.out.mono ?_
              rintro e w9 ⟨rfl, rfl⟩
              go_wp2_with fail
              refine W2.out.mono ?_
              rintro e w9 ⟨rfl, rfl⟩
              go_wp2_with fail
              refine (sane_any _).mono ?_
              rintro e w9 ⟨rfl, f9⟩
              have F9 := Lib.hid (hOUT.out w9 (f68.out.trans f9))
              clear f9
              go_wp2_with fail
              go_ret
              exact ⟨rfl, F9.out⟩
          · rw [hk1, if_pos rfl] at A1
            replace A1 := Lib.hid A1; replace hk1 := Lib.hid hk1
            go_wp2_with fail
            rw [rounds_succ]
            go_wp2_with fail
            refine A1.out.mono ?_
            rintro e w6 ⟨rfl, f6⟩
            have f56 := f5.out.trans f6
            replace f6 := Lib.hid f6; replace f56 := Lib.hid f56
            clear cs5
            go_wp2_with fail
            refine (sane_any _).mono ?_
            rintro e w9 ⟨rfl, f9⟩
            have F9 := Lib.hid (hOUT.out w9 (f56.out.trans f9))
            clear f9
            go_wp2_with fail
            go_ret
            exact ⟨rfl, F9.out⟩
        · rw [hk0, if_pos rfl] at A0
          replace A0 := Lib.hid A0
          replace hk0 := Lib.hid hk0
          go_wp2_with fail
          refine wp_loop_rounds 3 ?_
          rw [rounds_succ]
          go_wp2_with fail
          refine A0.out.mono ?_
          rintro e w5 ⟨rfl, f5⟩
          replace f5 := Lib.hid f5
          clear csx cwx
          go_wp2_with fail
          refine (sane_any _).mono ?_
          rintro e w9 ⟨rfl, f9⟩
          have F9 := Lib.hid (hOUT.out w9 (f5.out.trans f9))
          clear f9
          go_wp2_with fail
          go_ret
          exact ⟨rfl, F9.out⟩
end Go.Proofs.Ytjgmlnkbplgloaa
