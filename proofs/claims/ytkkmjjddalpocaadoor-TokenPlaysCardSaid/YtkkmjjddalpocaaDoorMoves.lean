import Derived.Test.YtkkmjjddalpocaaDoorMovesP
namespace Go.Proofs.YtkkmjjddalpocaaDoor
open Go.RowKit
set_option linter.unusedVariables false
set_option linter.unusedSimpArgs false
set_option maxHeartbeats 4000000
set_option maxRecDepth 20000
def ints (l : List Int) : List Value := l.map (.int .i64)
theorem ints_app (l r : List Int) : ints (l ++ r) = ints l ++ ints r := List.map_append
theorem ints_len (l : List Int) : (ints l).length = l.length := List.length_map _
theorem Row.ints {w : World} {v : Value} {l : List Int} {bo : Option Nat} (h : Row 1 w v l.length (ints l) bo) (hr : ∀ x ∈ l, -9223372036854775808 ≤ x ∧ x ≤ 9223372036854775807) : IntArg w v l := by
  rcases h with ⟨_, h2, _, o, rfl⟩ | ⟨b, off, cap, _, rfl, _, h4, _, _, h7⟩
  · exact ⟨o, 0, by rw [h2], hr, fun i h => by omega⟩
  · exact ⟨_, cap, rfl, hr, fun i h => ⟨b, off, rfl, h4, by rw [h7 i (by omega)]; simp [Go.Proofs.YtkkmjjddalpocaaDoor.ints, h]⟩⟩
noncomputable def zInt : Value := iInt.zero.getD default
/-- Two more numbers. -/
theorem Row.two {w : World} {v : Value} {l : List Int} {bo : Option Nat} (h : Row 1 w v l.length (Go.Proofs.YtkkmjjddalpocaaDoor.ints l) bo) (hn : l.length < 1000000) (x y : Int) :
    ∃ v' w' bo', (Builtin.append_ #[52, 52] 52 #[v, .slice (some ⟨w.heap.size, 0, none⟩) 2 2]).run Tryd.prog (w.alloc (.cells #[.int .i64 x, .int .i64 y] 3)) = .ok v' w' ∧
      Row 1 w' v' (l ++ [x, y]).length (Go.Proofs.YtkkmjjddalpocaaDoor.ints (l ++ [x, y])) bo' ∧ (bo' = bo ∨ ∃ z, bo' = some z ∧ w.heap.size ≤ z) ∧ Fr bo.toList w w' := by
  have f1 : Fr [] w (w.alloc (.cells #[.int .i64 x, .int .i64 y] 3)) := (Fr.refl [] w).alloc _
  have P1 := Pt.newA w 3 #[.int .i64 x, .int .i64 y]
  have h1 := h.fr f1 (by simp)
  have hsrc : Src Tryd.prog 1 52 (.slice (some ⟨w.heap.size, 0, none⟩) 2 2) 2 (Go.Proofs.YtkkmjjddalpocaaDoor.ints [x, y]) (w.alloc (.cells #[.int .i64 x, .int .i64 y] 3)) := Src.ofSlice _ uInts ⟨w.heap.size, 0, none⟩ 2 2 _ rfl (fun j u hu => by rw [Addr.add_lit, P1.cell, Nat.zero_add]; exact hu) (by intro u hu; simp [Go.Proofs.YtkkmjjddalpocaaDoor.ints] at hu; rcases hu with rfl | rfl <;> rfl)
  obtain ⟨v', w', bo', hrun, hr, hb, hf⟩ := h1.append (t := 52) (ty := 52) (e := 3) (i := iInt) (z := zInt) uInts infoInt (by kernel_rfl) (by kernel_rfl) (by omega) (by kernel_rfl) (of_decide_eq_true (by kernel_rfl)) hn hsrc (by omega) (by omega)
  refine ⟨v', w', bo', hrun, ?_, ?_, (f1.mono (by simp)).trans hf⟩
  · rw [ints_app, List.length_append]; exact hr
  · rcases hb with hb | hb
    · exact .inl hb
    · exact .inr ⟨_, hb, f1.size⟩
/-- append whose run is known, in the walk. -/
theorem wpList_append_run {P : Program} (w : World) {ops : Array Oper} {rest : List Oper} {o : Oper} {a : Act} {Q : Exit → Act → World → Prop} (hgd : o.guard = none) (s x : Operand) (t : TypeId)
    (ho : o.op = .call { callee := .builtin .append, args := #[s, x], argTypes := #[t, t] }) {v xv v' : Value} {w' : World} (hv : a.eval s = v) (hx : a.eval x = xv)
    (hrun : (Builtin.append_ #[t, t] o.type #[v, xv]).run P w = .ok v' w') (hK : wpList P ops Q rest (a.put o.dst v') w') : wpList P ops Q (o :: rest) a w := by
  refine wpList_plain hgd fun K hK' => ?_
  unfold Oper.wp
  simp [execOp, ho, resolve, invoke, builtin, hv, hx, hrun, Result.andThen]
  exact hK' _ _ hK
/-- append([]int{}, l..). -/
theorem copy_run (lv : Value) (ds : List Int) (w : World) (hD : IntArg w lv ds) (hn : ds.length ≤ 60) :
    ∃ v' w' bo, (Builtin.append_ #[52, 52] 52 #[.slice (some ⟨w.heap.size, 0, none⟩) 0 0, lv]).run Tryd.prog (w.alloc (.cells #[] 3)) = .ok v' w' ∧
      Row 1 w' v' ds.length (Go.Proofs.YtkkmjjddalpocaaDoor.ints ds) bo ∧ (∀ z, bo = some z → w.heap.size ≤ z) ∧ Fr [] w w' := by
  obtain ⟨o, cap, rfl, _, hl⟩ := hD
  have f1 : Fr [] w (w.alloc (.cells #[] 3)) := (Fr.refl [] w).alloc _
  by_cases h0 : ds = []
  · subst h0
    have hsrc : Src Tryd.prog iInt.size 52 (.slice o 0 cap) 0 [] (w.alloc (.cells #[] 3)) := by
      refine Src.mk (.inl ⟨_, uInts⟩) (fun w' => by simp [Builtin.lenOf, go_sem]) ?_ ?_ (by simp) (by simp)
      · cases o <;> simp [Builtin.firstCells, go_sem]
      · cases o <;> simp [Builtin.firstCells, go_sem]
    refine ⟨_, _, none, run_append_nothing _ _ _ _ _ iInt uInts infoInt _ 0 0 (Nat.le_refl _) _ hsrc, Row.nil 1 _ _, by simp, f1⟩
  · obtain ⟨b, off, rfl, hb, _⟩ := hl 0 (by cases ds with | nil => exact absurd rfl h0 | cons _ _ => simp)
    have hpos : 0 < ds.length := by cases ds with | nil => exact absurd rfl h0 | cons _ _ => simp
    have hc : ∀ i (h : i < ds.length), w.cell? ⟨b, off + i, none⟩ = some (.int .i64 ds[i]) := fun i h => by
      obtain ⟨b', off', e, _, hc⟩ := hl i h
      simp only [Option.some.injEq, Addr.mk.injEq, and_true] at e
      obtain ⟨rfl, rfl⟩ := e
      exact hc
    have hsrc : Src Tryd.prog 1 52 (.slice (some ⟨b, off, none⟩) ds.length cap) ds.length (Go.Proofs.YtkkmjjddalpocaaDoor.ints ds) (w.alloc (.cells #[] 3)) := Src.ofSlice _ uInts ⟨b, off, none⟩ ds.length cap _ (by simp [Go.Proofs.YtkkmjjddalpocaaDoor.ints]) (fun j u hu => by
        have hj : j < ds.length := by have := (List.getElem?_eq_some_iff.1 hu).1; simpa [Go.Proofs.YtkkmjjddalpocaaDoor.ints] using this
        rw [Addr.add_lit, f1.cell (p := ⟨b, off + j, none⟩) hb (by simp), hc j hj]
        simpa [Go.Proofs.YtkkmjjddalpocaaDoor.ints, hj] using hu) (by intro u hu; simp only [Go.Proofs.YtkkmjjddalpocaaDoor.ints, List.mem_map] at hu; obtain ⟨a, _, rfl⟩ := hu; rfl)
    obtain ⟨v', w', bo', hrun, hr, hb', hf⟩ := (Row.nil 1 (w.alloc (.cells #[] 3)) (some ⟨w.heap.size, 0, none⟩)).append (t := 52) (ty := 52) (e := 3) (i := iInt) (z := zInt) uInts infoInt (by kernel_rfl) (by kernel_rfl) (by omega) (by kernel_rfl) (of_decide_eq_true (by kernel_rfl)) (by omega) hsrc (by omega) hpos
    refine ⟨v', w', bo', hrun, by simpa using hr, fun z hz => ?_, f1.trans (by simpa using hf)⟩
    rcases hb' with h | h
    · rw [h] at hz; cases hz
    · rw [h] at hz; cases hz; exact f1.size
/-- A copy of a slice that came in. -/
theorem copy_any (lv : Value) (ds : List Int) (w : World) (hD : IntArg w lv ds) (hn : ds.length ≤ 60) :
    Calls Tryd.prog 25 #[lv] w fun e w' => ∃ v bo, e = .returned v ∧ Row 1 w' v ds.length (Go.Proofs.YtkkmjjddalpocaaDoor.ints ds) bo ∧ (∀ z, bo = some z → w.heap.size ≤ z) ∧ Fr [] w w' := by
  obtain ⟨v', w', bo, hrun, hr, hb, hf⟩ := copy_run lv ds w hD hn
  replace hrun := Lib.hid hrun
  clear hD
  go_enter Tryd.func25, Tryd.ntmps25
  go_wp2_with (first | (at_builtin; refine wpList_append_run _ rfl _ _ _ rfl rfl rfl hrun.out ?_))
  go_ret
  exact ⟨v', bo, rfl, hr, hb, hf⟩
theorem reps_range (n : Nat) : ∀ x ∈ reps n, -9223372036854775808 ≤ x ∧ x ≤ 9223372036854775807 := by
  induction n with
  | zero => intro x h; cases h
  | succ n ih =>
    intro x h
    rcases List.mem_append.mp h with h | h
    · exact ih x h
    · simp only [List.mem_cons, List.not_mem_nil, or_false] at h
      rcases h with rfl | rfl <;> decide
theorem Tab.below {w w' : World} (h : Tab w) (hB : Below w.heap.size w w') : Tab w' := fun j hj => by
  rw [hB.cell (p := ⟨1, j, none⟩) h.lt]
  exact h j hj
theorem moves_any (m t : Int) (lv : Value) (ds : List Int) (w : World) (hT : Tab w) (hD : IntArg w lv ds) :
    Calls Tryd.prog 9 #[.int .i64 m, .int .i64 t, lv] w fun e w' => e = .returned (.bool true) ∧ Fr [] w w' := by
  by_cases hlen : ds.length ≤ 60
  · have hr : ∀ x ∈ ds, -9223372036854775808 ≤ x ∧ x ≤ 9223372036854775807 := hD.choose_spec.choose_spec.2.1
    have hC := Lib.hid (copy_any lv ds w hD hlen)
    obtain ⟨o, cap, rfl, _, _⟩ := hD
    have hlenI : ¬ ((60 : Int) < ds.length) := by omega
    replace hT := Lib.hid hT; replace hr := Lib.hid hr
    go_enter Tryd.func9, Tryd.ntmps9
    go_wp2_with fail
    refine hC.out.mono ?_
    rintro e w1 ⟨v1, bo1, rfl, hR1, hb1, hf1⟩
    replace hR1 := Lib.hid hR1; replace hb1 := Lib.hid hb1; replace hf1 := Lib.hid hf1
    clear hC
    go_wp2_with fail
    go_loopw [8, 7] (fun i v wr => ∃ (n : Nat) (bo : Option Nat), n ≤ 70 ∧ i = .int .i64 n ∧ Row 1 wr v (ds ++ reps n).length (ints (ds ++ reps n)) bo ∧ (∀ z, bo = some z → w.heap.size ≤ z) ∧ Below w.heap.size w wr) (fun i _ _ => (70 - intOf i).toNat)
    case atStart => exact ⟨0, bo1, by omega, rfl, by simpa [reps] using hR1.out, hb1.out, hf1.out.below (Nat.le_refl _) (by simp)⟩
    case round =>
      obtain ⟨n, bo, hn, rfl, hR, hb, hB⟩ := hrel
      by_cases hlt : n < 70
      · have hlt' : (n : Int) < 70 := by omega
        obtain ⟨v', w', bo', hrun, hR', hb', hF'⟩ := hR.two (by rw [List.length_append, reps_len]; omega) 4 5
        rw [List.append_assoc] at hR'
        replace hrun := Lib.hid hrun; replace hR := Lib.hid hR; replace hb := Lib.hid hb; replace hB := Lib.hid hB; replace hR' := Lib.hid hR'; replace hb' := Lib.hid hb'; replace hF' := Lib.hid hF'
        go_wp2_with (first | (at_builtin; refine wpList_append_run _ rfl _ _ _ rfl rfl rfl hrun.out ?_))
        go_roundw
        case rel => exact ⟨n + 1, bo', by omega, by go_num, hR'.out, fun z hz => by
          rcases hb'.out with h | ⟨y, h, hy⟩
          · rw [h] at hz; exact hb.out z hz
          · rw [h] at hz; cases hz; exact Nat.le_trans hB.out.size hy, hB.out.trans (Below.mono (hF'.out.below (n := w.heap.size) hB.out.size (fun z hz => hb.out z (by simpa using hz))) (Nat.le_refl _))⟩
        case measure => simp [intOf]; omega
      · have hn70 : n = 70 := by omega
        subst hn70
        have hD2 : IntArg wr u7 (ds ++ reps 70) := hR.ints (fun x hx => by
          rcases List.mem_append.mp hx with h | h
          · exact hr.out x h
          · exact reps_range 70 x h)
        have hTr : Tab wr := fun j hj => by
          rw [hB.cell (p := ⟨1, j, none⟩) hT.out.lt]
          exact hT.out j hj
        have hP := play_law m t u7 (ds ++ reps 70) wr hTr hD2
        have hLl : (ds ++ reps 70).length ≤ 200 := by rw [List.length_append, reps_len]; omega
        cases hs : setOk m t
        · have hp : playP m t (ds ++ reps 70) = (0, 0, 0, 1) := if_neg (by simp [hs])
          rw [hp] at hP
          replace hP := Lib.hid hP; replace hTr := Lib.hid hTr; replace hB := Lib.hid hB
          clear hR hb hD2
          go_wp2_with fail
          refine hP.out.mono ?_
          rintro e w2 ⟨rfl, f2⟩
          have B2 := hB.out.trans (f2.mono hB.out.size)
          have T2 : Tab w2 := hTr.out.fr (Fr.ofBelow (ex := []) f2) (by simp) hTr.out.lt
          have S2 := Lib.hid (sane_any _ (T2.fr ((Fr.refl [] w2).alloc (.cells #[.int .i64 0, .int .i64 0] 53)) (by simp) T2.lt))
          replace B2 := Lib.hid B2
          clear f2 hP T2
          go_wp2_with fail
          refine S2.out.mono ?_
          rintro e w3 ⟨rfl, f3⟩
          go_wp2
          go_ret
          exact ⟨rfl, Fr.ofBelow (B2.out.trans (((Fr.refl [] w2).alloc _ |>.trans f3).below B2.out.size (by simp)))⟩
        · obtain ⟨hJ, hwa, hwb⟩ := moves_end hs ds hlen
          have hub := (split_bits hs).1
          obtain ⟨m0, m1, t0, t1, _⟩ := setOk_spec hs
          have hrun2 : ∀ r, runP (startP m t) ((ds ++ reps 70) ++ r) = runP (runP (startP m t) (ds ++ reps 70)) r := fun r => runP_app _ _ _
          have hrange : ∀ x ∈ ds ++ reps 70, -9223372036854775808 ≤ x ∧ x ≤ 9223372036854775807 := fun x hx => by
            rcases List.mem_append.mp hx with h | h
            · exact hr.out x h
            · exact reps_range 70 x h
          obtain ⟨L, hL⟩ : ∃ L, ds ++ reps 70 = L := ⟨_, rfl⟩
          obtain ⟨q, hq⟩ : ∃ q, runP (startP m t) L = q := ⟨_, rfl⟩
          rw [hL] at hJ hwa hwb hR hP hLl hrun2 hD2 hrange
          rw [hq] at hJ hwa hwb hrun2
          have hp : playP m t L = (q.a.mine, q.b.mine, 0, 0) := by
            show (if _ then _ else _) = _
            rw [if_pos ⟨hs, by omega⟩, hq, hwa, hwb]; rfl
          rw [hp] at hP
          obtain ⟨_, a0, a1, _⟩ := Inv.good hJ.ia
          have hlast := fun hz => moves_last (by omega) hub hJ hwa hwb q.a.mine rfl hz
          obtain ⟨A, hA⟩ : ∃ A, q.a.mine = A := ⟨_, rfl⟩
          obtain ⟨Bm, hBm⟩ : ∃ A, q.b.mine = A := ⟨_, rfl⟩
          rw [hA, hBm] at hP
          rw [hA] at a0 a1 hlast
          replace hP := Lib.hid hP; replace hTr := Lib.hid hTr; replace hB := Lib.hid hB; replace hJ := Lib.hid hJ; replace hlast := Lib.hid hlast; replace hrun2 := Lib.hid hrun2; replace hrange := Lib.hid hrange
          replace hR := Lib.hid hR; replace hb := Lib.hid hb; replace hs := Lib.hid hs
          clear hD2 hL hq hA hBm hwa hwb hp hr
          obtain ⟨wp, hwp⟩ : ∃ x, x = wr := ⟨_, rfl⟩
          subst hwp
          go_wp2_with fail
          refine hP.out.mono ?_
          rintro e w2 ⟨rfl, f2⟩
          have B2 := hB.out.trans (f2.mono hB.out.size)
          have F2 : Fr [] wp w2 := Fr.ofBelow f2
          obtain ⟨w3, hw3⟩ : ∃ x, w2.alloc (.cells #[.int .i64 A, .int .i64 Bm] 53) = x := ⟨_, rfl⟩
          have P3 := Pt.newA w2 53 #[.int .i64 A, .int .i64 Bm]
          rw [hw3] at P3
          have F3 : Fr [] wp w3 := by rw [← hw3]; exact F2.alloc _
          have B3 : Below w.heap.size w w3 := by rw [← hw3]; exact B2.alloc B2.size _
          obtain ⟨bO, hbO⟩ : ∃ x, w2.heap.size = x := ⟨_, rfl⟩
          rw [hbO] at P3
          have c3 := P3.cell
          replace F3 := Lib.hid F3; replace B3 := Lib.hid B3; replace P3 := Lib.hid P3
          clear f2 hP F2 B2
          have u0 : wp.heap.size ≤ w3.heap.size := F3.out.size
          go_wp2_with fail
          go_loopw [12, 13] (fun v s wr => ∃ k : Int, A ≤ k ∧ k ≤ 15 ∧ s = .int .i64 k ∧ v = .int .i64 16 ∧ wr = w3) (fun _ s _ => (intOf s).toNat)
          case atStart => exact ⟨15, by omega, by omega, rfl, rfl, rfl⟩
          case round =>
            obtain ⟨k, hk0, hk1, rfl, rfl, rfl⟩ := hrel
            have hlb := last_bits a0 hk0 hk1
            by_cases hk : 0 < k
            · by_cases hAk : A = k
              · subst hAk
                have hz : A ≠ 0 := by omega
                obtain ⟨hJ2, hwa2, hwb2, hz1, hz2⟩ := hlast.out hz
                obtain ⟨v', w4, bo', hrun, hR4, hb4, hF4⟩ := (hR.out.fr F3.out (by simp)).two (by omega) (2 + 6 * A) 5
                have B4 : Below w.heap.size w w4 := B3.out.trans (hF4.below B3.out.size (fun z hz => hb.out z (by simpa using hz)))
                have T4 := hT.out.below B4
                have hD4 := hR4.ints (fun x hx => by
                  rcases List.mem_append.mp hx with h | h
                  · exact hrange.out x h
                  · simp only [List.mem_cons, List.not_mem_nil, or_false] at h
                    rcases h with rfl | rfl <;> omega)
                have hP2 := play_law m t v' (L ++ [2 + 6 * A, 5]) w4 T4 hD4
                have hp2 : playP m t (L ++ [2 + 6 * A, 5]) = ((runP q [2 + 6 * A, 5]).a.mine, (runP q [2 + 6 * A, 5]).b.mine, 0, 0) := by
                  show (if _ then _ else _) = _
                  rw [if_pos ⟨hs.out, by simp; omega⟩, hrun2.out, hwa2, hwb2]; rfl
                rw [hp2] at hP2
                generalize (runP q [2 + 6 * A, 5]).a.mine = A2 at *
                generalize (runP q [2 + 6 * A, 5]).b.mine = B2 at *
                have e6 : wrap64 (6 * A) = 6 * A := by unfold wrap64; omega
                have e7 : wrap64 (2 + 6 * A) = 2 + 6 * A := by unfold wrap64; omega
                have e8 : (bits .and .i64 A A == A) = true := self15 A a0 a1
                have e9 : bits .and .i64 A A = A := by simpa using e8
                have h16 : (A == 16) = false := by rw [beq_eq_false_iff_ne]; omega
                replace hP2 := Lib.hid hP2; replace hrun := Lib.hid hrun; replace B4 := Lib.hid B4; replace T4 := Lib.hid T4; replace hrun2 := Lib.hid hrun2
                clear hlb hJ2 hwa2 hwb2 hR4 hb4 hF4 hD4 hp2 e8
                go_wp2_with (first | (at_builtin; refine wpList_append_run _ rfl _ _ _ rfl rfl rfl hrun.out ?_))
                refine hP2.out.mono ?_
                rintro e w5 ⟨rfl, f5⟩
                have B5 := B4.out.trans (f5.mono B4.out.size)
                have T5 := hT.out.below (B5.alloc B5.size (.cells #[.int .i64 A2, .int .i64 B2] 53))
                have S5 := Lib.hid (sane_any _ T5)
                replace B5 := Lib.hid B5
                clear T5 f5 hP2
                go_wp2_with fail
                refine S5.out.mono ?_
                rintro e w6 ⟨rfl, f6⟩
                have B6 := (B5.out.alloc B5.out.size (.cells #[.int .i64 A2, .int .i64 B2] 53)).trans (f6.below (by have := B5.out.size; simp; omega) (by simp))
                replace B6 := Lib.hid B6
                clear f6 S5
                go_wp2
                go_ret
                exact ⟨rfl, Fr.ofBelow B6.out⟩
              · have hlb2 : (bits .and .i64 A k == k) = false := by rw [hlb]; simpa using hAk
                clear hlb
                go_wp2_with fail
                go_roundw
                case rel => exact ⟨k - 1, by omega, by omega, by go_num, rfl, trivial⟩
                case measure => simp [intOf]; omega
            · have hk0 : k = 0 := by omega
              subst hk0
              have S3 := Lib.hid (sane_any wr (hT.out.below B3.out))
              clear hlb
              go_wp2_with fail
              refine S3.out.mono ?_
              rintro e w4 ⟨rfl, f4⟩
              have B4 := B3.out.trans (f4.below B3.out.size (by simp))
              replace B4 := Lib.hid B4
              clear f4 S3
              go_wp2
              go_ret
              exact ⟨rfl, Fr.ofBelow B4.out⟩
  · have hlenI : (60 : Int) < ds.length := by omega
    obtain ⟨o, cap, rfl, _, _⟩ := hD
    have S1 := Lib.hid (sane_any w hT)
    go_enter Tryd.func9, Tryd.ntmps9
    go_wp2_with fail
    refine S1.out.mono ?_
    rintro e w2 ⟨rfl, f2⟩
    go_wp2
    go_ret
    exact ⟨rfl, f2⟩
end Go.Proofs.YtkkmjjddalpocaaDoor
