import Derived.Test.YtnggimkkjdipmaaTB6
namespace Go.Proofs.Ytnggimkkjdipmaa
open Go.RowKit
set_option linter.unusedVariables false
set_option linter.unusedSimpArgs false
set_option maxHeartbeats 8000000
set_option maxRecDepth 20000
def RunR3 (x : List Int × Int × Int) (w : World) (e : Ending) (w' : World) : Prop := ∃ v, e = .returned (.tuple #[v, .int .i64 x.2.1, .int .i64 x.2.2]) ∧ NIn w' v x.1 ∧ Fr [] w w'
theorem NIn.nil (w : World) : NIn w (.slice none 0 0) [] := ⟨none, 0, rfl, fun i h => by simp at h⟩
theorem Run_any (T : Tb) (v : Value) (s : Int) (wv : Value) (l : List Int) (w : World) (hT : TIn w v T) (hD : NIn w wv l) :
    Calls Try.prog 16 #[v, .int .i64 s, wv] w (RunR3 (T.Run s l) w) := by
  obtain ⟨r, rfl, hR⟩ := hT
  have hT' : TIn w (T.val r) T := ⟨r, rfl, hR⟩
  have hval : T.val r = .agg #[.int .i64 T.st, .int .i64 T.ev, .int .i64 T.sr, r] := rfl
  obtain ⟨w0, hw0⟩ : ∃ x, w.alloc (.cells #[.int .i64 T.st, .int .i64 T.ev, .int .i64 T.sr, r] TTab) = x := ⟨_, rfl⟩
  have P0 := Pt.newA w TTab #[.int .i64 T.st, .int .i64 T.ev, .int .i64 T.sr, r]
  rw [hw0] at P0
  have F0 : Fr [] w w0 := by rw [← hw0]; exact (Fr.refl [] w).alloc _
  obtain ⟨bt, hbt⟩ : ∃ x, w.heap.size = x := ⟨_, rfl⟩
  rw [hbt] at P0
  have V1 := fun w' (f : Fr [] w w') => valid_any T (T.val r) w' (hT'.fr f)
  have H1 := fun w' (f : Fr [] w w') => has_any T (T.val r) s w' (hT'.fr f)
  have W1 := fun w' (f : Fr [] w w') => worded_any T (T.val r) wv l w' (hT'.fr f) (hD.fr f)
  have R1 := fun w' (f : Fr [] w w') h1 h2 h3 => trun_any T (T.val r) s wv l w' (hT'.fr f) h1 (hD.fr f) h2 h3
  have C := fun w' (f : Fr [] w0 w') => (f.pt P0 (by simp)).cell
  rw [hval] at V1 H1 W1 R1 ⊢
  have BAD : validT T = false ∨ T.has s = false ∨ T.worded l = false → T.Run s l = ([], 0, 1) := fun h => by
    unfold Tb.Run
    rcases h with h | h | h <;> simp [h]
  replace V1 := Lib.hid V1; replace H1 := Lib.hid H1; replace W1 := Lib.hid W1; replace R1 := Lib.hid R1; replace P0 := Lib.hid P0; replace F0 := Lib.hid F0; replace C := Lib.hid C; replace BAD := Lib.hid BAD
  clear hT' hR hval
  have c0 := C.out w0 (Fr.refl _ _)
  obtain ⟨X, hX⟩ : ∃ X, T.Run s l = X := ⟨_, rfl⟩
  rw [hX]
  cases hv : validT T
  · have hb := Lib.hid (BAD.out (.inl hv))
    go_enter Try.func16, Try.ntmps16
    go_wp2_with fail
    refine (V1.out _ F0.out).mono ?_
    rintro e w1 ⟨rfl, f1⟩
    replace f1 := Lib.hid f1
    replace hX := Lib.hid hX
    rw [hv]
    clear hv
    go_wp2_with fail
    go_ret3
    exact ⟨.slice none 0 0, by rw [← hX.out, hb.out]; rfl, by rw [← hX.out, hb.out]; exact NIn.nil _, F0.out.trans f1.out⟩
  · cases hh : T.has s
    · have hb := Lib.hid (BAD.out (.inr (.inl hh)))
      go_enter Try.func16, Try.ntmps16
      go_wp2_with fail
      refine (V1.out _ F0.out).mono ?_
      rintro e w1 ⟨rfl, f1⟩
      have c1 := C.out w1 f1
      have f01 := F0.out.trans f1
      rw [hv]
      replace f1 := Lib.hid f1; replace f01 := Lib.hid f01
      replace hX := Lib.hid hX
      go_wp2_with fail
      refine (H1.out _ f01.out).mono ?_
      rintro e w2 ⟨rfl, f2⟩
      rw [hh]
      replace f2 := Lib.hid f2
      clear hv hh c1
      go_wp2_with fail
      go_ret3
      exact ⟨.slice none 0 0, by rw [← hX.out, hb.out]; rfl, by rw [← hX.out, hb.out]; exact NIn.nil _, f01.out.trans f2.out⟩
    · cases hw : T.worded l
      · have hb := Lib.hid (BAD.out (.inr (.inr hw)))
        go_enter Try.func16, Try.ntmps16
        go_wp2_with fail
        refine (V1.out _ F0.out).mono ?_
        rintro e w1 ⟨rfl, f1⟩
        have c1 := C.out w1 f1
        have f01 := F0.out.trans f1
        rw [hv]
        replace f1 := Lib.hid f1; replace f01 := Lib.hid f01
        replace hX := Lib.hid hX
        go_wp2_with fail
        refine (H1.out _ f01.out).mono ?_
        rintro e w2 ⟨rfl, f2⟩
        have c2 := C.out w2 (f1.out.trans f2)
        have f02 := f01.out.trans f2
        rw [hh]
        replace f2 := Lib.hid f2; replace f02 := Lib.hid f02
        clear c1
        go_wp2_with fail
        refine (W1.out _ f02.out).mono ?_
        rintro e w3 ⟨rfl, f3⟩
        rw [hw]
        replace f3 := Lib.hid f3
        clear hv hh c2
        go_wp2_with fail
        go_ret3
        exact ⟨.slice none 0 0, by rw [← hX.out, hb.out]; rfl, by rw [← hX.out, hb.out]; exact NIn.nil _, f02.out.trans f3.out⟩
      · have hg : X = ((T.run s l).1, (T.run s l).2, 0) := by rw [← hX]; unfold Tb.Run; rw [hv, hh, hw]; rfl
        have hs : 0 ≤ s ∧ s < T.st := by simpa [Tb.has] using hh
        have RR := Lib.hid (fun w' f => R1.out w' f ((validT_iff T).mp hv) hw hs)
        go_enter Try.func16, Try.ntmps16
        go_wp2_with fail
        refine (V1.out _ F0.out).mono ?_
        rintro e w1 ⟨rfl, f1⟩
        have c1 := C.out w1 f1
        have f01 := F0.out.trans f1
        rw [hv]
        replace f1 := Lib.hid f1; replace f01 := Lib.hid f01
        replace hX := Lib.hid hX; replace hg := Lib.hid hg
        go_wp2_with fail
        refine (H1.out _ f01.out).mono ?_
        rintro e w2 ⟨rfl, f2⟩
        have c2 := C.out w2 (f1.out.trans f2)
        have f02 := f01.out.trans f2
        rw [hh]
        replace f2 := Lib.hid f2; replace f02 := Lib.hid f02
        clear c1
        go_wp2_with fail
        refine (W1.out _ f02.out).mono ?_
        rintro e w3 ⟨rfl, f3⟩
        have c3 := C.out w3 ((f1.out.trans f2.out).trans f3)
        have f03 := f02.out.trans f3
        rw [hw]
        replace f3 := Lib.hid f3; replace f03 := Lib.hid f03
        clear c2
        go_wp2_with fail
        refine (RR.out _ f03.out).mono ?_
        rintro e w4 ⟨v4, rfl, n4, f4⟩
        replace n4 := Lib.hid n4; replace f4 := Lib.hid f4
        clear hv hh hw c3
        go_wp2_with fail
        go_ret3
        exact ⟨v4, by rw [hg.out]; rfl, by rw [hg.out]; exact n4.out, f03.out.trans f4.out⟩
end Go.Proofs.Ytnggimkkjdipmaa
