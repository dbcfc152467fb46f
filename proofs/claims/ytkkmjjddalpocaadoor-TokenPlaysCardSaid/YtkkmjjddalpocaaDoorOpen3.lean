import Derived.Test.YtkkmjjddalpocaaDoorPlayP
import Derived.Test.YtkkmjjddalpocaaDoorOpen
import Derived.ChangeKeysEq
namespace Go.Proofs.YtkkmjjddalpocaaDoor
open Go.ChangeShapes Go.WideShapes Go.ChangeAt Go.RowKit Go.Deep Go.Joins
set_option linter.unusedVariables false
set_option linter.unusedSimpArgs false
noncomputable def iInt : TypeInfo := (Tryd.prog.info? 3).getD default
theorem infoInt : Tryd.prog.info? 3 = some iInt := by kernel_rfl
theorem cellsInt : Tryd.prog.cellsOf 3 = 1 := by kernel_rfl
theorem uPair : Tryd.prog.underlying 53 = some (.array 2 3) := by kernel_rfl
/-- Two pairs of numbers are compared. -/
theorem eq_pair (a b c d : Int) (w : World) : (Op.equalIn 10000 53 (.agg #[.int .i64 a, .int .i64 b]) (.agg #[.int .i64 c, .int .i64 d])).run Tryd.prog w = .ok ((a == c) && (b == d)) w := by
  rw [run_equalIn_array w 9999 _ _ uPair infoInt, cellsInt]
  have p0 : ∀ (x y : Value) (w : World), (part 3 #[x, y] 0).run Tryd.prog w = .ok x w := fun x y w => by simp [part, run_underlying uInt, go_sem]
  have p1 : ∀ (x y : Value) (w : World), (part 3 #[x, y] 1).run Tryd.prog w = .ok y w := fun x y w => by simp [part, run_underlying uInt, go_sem]
  simp only [show List.range 2 = [0, 1] from rfl, Op.eqItems, Sem.run_bind, Nat.mul_one, p0, p1, Result.andThen_ok, run_equalIn_int _ _ _ .i64 .i64 _ _ uInt]
  cases h : (a == c) <;> cases h2 : (b == d) <;> simp [h, h2, p1, run_equalIn_int _ _ _ .i64 .i64 _ _ uInt]
theorem uInts : Tryd.prog.underlying 52 = some (.slice 3) := by kernel_rfl
theorem intArg_of {H : Type} {enc : TypeId × Value → H} {w : World} {base : Nat} {sp : Nat → Bool} {held : Bool} {fuel : Nat} {cs : List Value} {x : DataW H × List MemPlace} (h : DataW.trod enc Tryd.prog w base sp held fuel 52 cs = some x) :
    ∃ v l, cs = [v] ∧ IntArg w v l := by
  rcases open_ints uInts uInt (by kernel_rfl) h with ⟨rfl, rfl⟩ | ⟨a, len, cap, zs, rfl, hb, hl, hcap, hm, hx, hc, hwf⟩
  · exact ⟨_, [], rfl, none, 0, rfl, by simp, by simp⟩
  · have hlm : len ≤ zs.length := by rw [hm]; split <;> omega
    have htl : (zs.take len).length = len := by rw [List.length_take]; omega
    refine ⟨_, zs.take len, rfl, some a, cap, by rw [htl], fun x hx => ?_, fun i hi => ?_⟩
    · have := hwf x (List.mem_of_mem_take hx)
      have h2 : decide (IntKind.i64.min ≤ x) = true ∧ decide (x ≤ IntKind.i64.max) = true := by simpa [Lit.wf] using this
      rw [decide_eq_true_eq, decide_eq_true_eq, show IntKind.i64.min = -9223372036854775808 by decide +kernel, show IntKind.i64.max = 9223372036854775807 by decide +kernel] at h2
      exact h2
    · have h0 := hc i (by omega)
      have hz := hc 0 (by omega)
      have hblk := World.block_lt_of_cell? w _ hz
      have hsp := World.cell?_spot hz
      obtain ⟨b, off, spot⟩ := a
      have hspot : spot = none := by simpa [Addr.add] using hsp
      subst hspot
      refine ⟨b, off, rfl, by rw [add_none] at hblk; exact hblk, ?_⟩
      rw [add_none] at h0
      rw [h0, List.getD_eq_getElem?_getD, List.getElem?_eq_getElem (by omega)]
      simp
theorem play_law (m t : Int) (dv : Value) (ds : List Int) (w : World) (hT : Tab w) (hD : IntArg w dv ds) :
    Calls Tryd.prog 23 #[.int .i64 m, .int .i64 t, dv] w (PlayPost (playP m t ds) w) := by
  by_cases h : setOk m t = true ∧ ds.length ≤ 300
  · exact play_any m t dv ds w hT hD h.1 h.2
  · have : playP m t ds = (0, 0, 0, 1) := if_neg h
    rw [this]
    refine play_bad m t dv ds w hD ?_
    cases hs : setOk m t
    · exact .inl rfl
    · exact .inr (by rw [hs] at h; simp at h; omega)
theorem one_any (m t : Int) (dv : Value) (ds : List Int) (w : World) (hT : Tab w) (hD : IntArg w dv ds) :
    Calls Tryd.prog 8 #[.int .i64 m, .int .i64 t, dv] w fun e w' => e = .returned (.bool true) ∧ Fr [] w w' := by
  have hP := play_law m t dv ds w hT hD
  by_cases h : setOk m t = true ∧ ds.length ≤ 300
  · have hp : playP m t ds = _ := if_pos h
    rw [hp] at hP
    have hJ := J_run ds (J_start h.1)
    obtain ⟨m0, m1, t0, t1, _⟩ := setOk_spec h.1
    have hb := (split_bits h.1).1
    obtain ⟨w0, w1, hs, hz1, hz2, hz3⟩ := hJ.one (by omega) hb
    obtain ⟨_, a0, a1, _⟩ := Inv.good hJ.ia
    obtain ⟨_, b0, b1, _⟩ := Inv.good hJ.ib
    generalize (runP (startP m t) ds).a.mine = A at *
    generalize (runP (startP m t) ds).b.mine = B at *
    generalize orGives (orGives 0 (runP (startP m t) ds).wa) (runP (startP m t) ds).wb = W at *
    have e1 : wrap64 (A + B) = A + B := by unfold wrap64; omega
    have e3 : wrap64 (m + t) = m + t := by unfold wrap64; omega
    clear hJ hp
    replace hP := Lib.hid hP
    replace hT := Lib.hid hT
    clear hD h hb
    go_enter Tryd.func8, Tryd.ntmps8
    go_wp2_with fail
    refine hP.out.mono ?_
    rintro e w1 ⟨rfl, f1⟩
    have F1 : Fr [] w w1 := Fr.ofBelow f1
    have T1 := hT.out.fr (F1.alloc (.cells #[.int .i64 A, .int .i64 B] 53)) (by simp) hT.out.lt
    have S1 := Lib.hid (sane_any _ T1)
    replace T1 := Lib.hid T1; replace F1 := Lib.hid F1
    clear f1 hP
    go_wp2_with fail
    refine S1.out.mono ?_
    rintro e w2 ⟨rfl, f2⟩
    have F2 : Fr [] w w2 := (F1.out.alloc _).trans f2
    clear T1 S1
    go_wp2
    go_ret
    exact ⟨rfl, F2⟩
  · have hp : playP m t ds = _ := if_neg h
    rw [hp] at hP
    replace hP := Lib.hid hP
    replace hT := Lib.hid hT
    clear hD h hp
    go_enter Tryd.func8, Tryd.ntmps8
    go_wp2_with fail
    refine hP.out.mono ?_
    rintro e w1 ⟨rfl, f1⟩
    have F1 : Fr [] w w1 := Fr.ofBelow f1
    have T1 := hT.out.fr (F1.alloc (.cells #[.int .i64 0, .int .i64 0] 53)) (by simp) hT.out.lt
    have S1 := Lib.hid (sane_any _ T1)
    replace T1 := Lib.hid T1; replace F1 := Lib.hid F1
    clear f1 hP
    go_wp2_with fail
    rw [eq_pair, show ((0 : Int) == 0 && (0 : Int) == 0) = true from rfl, Result.andThen_ok]
    go_wp2_with fail
    go_wp2_with fail
    refine S1.out.mono ?_
    rintro e w2 ⟨rfl, f2⟩
    have F2 : Fr [] w w2 := (F1.out.alloc _).trans f2
    clear T1 S1
    go_wp2
    go_ret
    exact ⟨rfl, F2⟩
end Go.Proofs.YtkkmjjddalpocaaDoor
