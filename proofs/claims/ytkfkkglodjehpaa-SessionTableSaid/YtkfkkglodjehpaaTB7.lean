import Derived.Test.YtkfkkglodjehpaaTB5
namespace Go.Proofs.Ytkfkkglodjehpaa
open Go.RowKit
set_option linter.unusedVariables false
set_option linter.unusedSimpArgs false
set_option maxHeartbeats 8000000
set_option maxRecDepth 20000
theorem worded_any (T : Tb) (v : Value) (wv : Value) (l : List Int) (w : World) (h : TIn w v T) (hD : NIn w wv l) : Calls Try.prog 16 #[v, wv] w fun e w' => e = .returned (.bool (T.worded l)) ∧ Fr [] w w' := by
  rw [worded_eq]
  obtain ⟨r, rfl, _⟩ := h
  obtain ⟨st, ev, sr, rows⟩ := T
  dsimp only [Tb.val]
  obtain ⟨w0, hw0⟩ : ∃ x, w.alloc (.cells #[.int .i64 st, .int .i64 ev, .int .i64 sr, r] TTab) = x := ⟨_, rfl⟩
  have P0 := Pt.newA w TTab #[.int .i64 st, .int .i64 ev, .int .i64 sr, r]
  rw [hw0] at P0
  have F0 : Fr [] w w0 := by rw [← hw0]; exact (Fr.refl [] w).alloc _
  obtain ⟨bt, hbt⟩ : ∃ x, w.heap.size = x := ⟨_, rfl⟩
  rw [hbt] at P0
  by_cases hl : l.length ≤ 200
  · have C := Lib.hid (containsW_any wv l ev w0 bt (hD.fr F0) (by omega) (P0.cell 1))
    rw [decide_eq_true hl, Bool.true_and]
    obtain ⟨o, cap, rfl, _⟩ := hD
    have hl2 : (l.length : Int) ≤ 200 := by omega
    clear hl
    replace F0 := Lib.hid F0
    replace P0 := Lib.hid P0
    obtain ⟨q, hq⟩ : ∃ q, l.any (offE ev) = q := ⟨_, rfl⟩
    rw [hq] at C ⊢
    clear hq
    go_enter Try.func16, Try.ntmps16
    go_wp2_with fail
    refine C.out.mono ?_
    rintro e w1 ⟨rfl, rfl⟩
    go_wp2_with fail
    go_ret
    exact ⟨rfl, F0.out⟩
  · rw [decide_eq_false hl, Bool.false_and]
    obtain ⟨o, cap, rfl, _⟩ := hD
    have hl2 : ¬ (l.length : Int) ≤ 200 := by omega
    clear hl
    replace F0 := Lib.hid F0
    replace P0 := Lib.hid P0
    go_enter Try.func16, Try.ntmps16
    go_wp2_with fail
    go_ret
    exact ⟨rfl, F0.out⟩
/-- What a run hands back. -/
def RunR (x : List Int × Int) (w : World) (e : Ending) (w' : World) : Prop := ∃ v, e = .returned (.tuple #[v, .int .i64 x.2]) ∧ NIn w' v x.1 ∧ Fr [] w w'
theorem trun_any (T : Tb) (v : Value) (s : Int) (wv : Value) (l : List Int) (w : World) (hT : TIn w v T) (hV : VT T) (hD : NIn w wv l) (hw : T.worded l = true) (hs : 0 ≤ s ∧ s < T.st) :
    Calls Try.prog 17 #[v, .int .i64 s, wv] w (RunR (T.run s l) w) := by
  have hwd : l.length ≤ 200 ∧ ∀ e ∈ l, 0 ≤ e ∧ e < T.ev := by
    simp only [Tb.worded, Bool.and_eq_true, List.all_eq_true, decide_eq_true_eq] at hw
    exact ⟨hw.1, fun e he => hw.2 e he⟩
  clear hw
  obtain ⟨r, rfl, hR⟩ := hT
  have hval : T.val r = .agg #[.int .i64 T.st, .int .i64 T.ev, .int .i64 T.sr, r] := rfl
  rw [hval]
  obtain ⟨st, hst⟩ : ∃ x, T.st = x := ⟨_, rfl⟩
  obtain ⟨ev, hev⟩ : ∃ x, T.ev = x := ⟨_, rfl⟩
  obtain ⟨sr, hsr⟩ : ∃ x, T.sr = x := ⟨_, rfl⟩
  rw [hst, hev, hsr]
  rw [hst] at hs
  rw [hev] at hwd
  obtain ⟨w0, hw0⟩ : ∃ x, w.alloc (.cells #[.int .i64 st, .int .i64 ev, .int .i64 sr, r] TTab) = x := ⟨_, rfl⟩
  have P0 := Pt.newA w TTab #[.int .i64 st, .int .i64 ev, .int .i64 sr, r]
  rw [hw0] at P0
  have F0 : Fr [] w w0 := by rw [← hw0]; exact (Fr.refl [] w).alloc _
  obtain ⟨bt, hbt⟩ : ∃ x, w.heap.size = x := ⟨_, rfl⟩
  rw [hbt] at P0
  obtain ⟨o, cap, rfl, hl⟩ := hR
  obtain ⟨o1, cap1, rfl, hd⟩ := hD
  have hst2 := hV.st
  rw [hst] at hst2
  replace hl := Lib.hid hl; replace hd := Lib.hid hd; replace P0 := Lib.hid P0; replace F0 := Lib.hid F0; replace hst := Lib.hid hst; replace hev := Lib.hid hev; replace hsr := Lib.hid hsr; replace hwd := Lib.hid hwd
  clear hval
  go_enter Try.func17, Try.ntmps17
  go_wp2_with fail
  clear hw0
  obtain ⟨n0, rfl⟩ : ∃ n : Nat, s = n := ⟨s.toNat, by omega⟩
  go_loopg [1, 8, 14] (l.length + 1) (fun k v1 v8 v14 wr => ∃ (i : Nat) (s' : Nat) (outs : List Int) (bo : Option Nat), i ≤ l.length ∧ k + i = l.length + 1 ∧ v1 = .int .i64 s' ∧ v14 = .int .i64 i ∧ (s' : Int) < st ∧ Row 1 wr v8 outs.length (ints outs) bo ∧ (∀ z, bo = some z → w0.heap.size ≤ z) ∧ outs.length ≤ i ∧ Fr [] w0 wr ∧ T.run n0 l = (outs ++ (T.run s' (l.drop i)).1, (T.run s' (l.drop i)).2))
  case atStart => exact ⟨0, n0, [], none, by omega, by omega, rfl, rfl, hs.2, Row.nil 1 _ none, by simp, by simp, Fr.refl _ _, by simp⟩
  case round =>
    obtain ⟨i, s', outs, bo, hi, hk, rfl, rfl, s1, hrow, hbo, hlo, hF, hrun⟩ := hrel
    have kt := (hF.pt P0.out (by simp)).cell
    have lbt := (hF.pt P0.out (by simp)).lt
    by_cases hlt : i < l.length
    · have hltI : (i : Int) < l.length := by omega
      obtain ⟨b1, off1, rfl, hb1, hc1⟩ := hd.out i hlt
      have FF := F0.out.trans hF
      have he := hwd.out.2 _ (List.getElem_mem hlt)
      obtain ⟨m, hm⟩ : ∃ m : Nat, l[i] = m := ⟨l[i].toNat, by omega⟩
      rw [hm] at hc1 he
      have c1 := FF.cell (p := ⟨b1, off1 + i, none⟩) hb1 (by simp)
      rw [hc1] at c1
      obtain ⟨hsn, hen, hat⟩ := hV.get (s := s') (e := m) (by omega) (by rw [hst.out]; exact s1) (by omega) (by rw [hev.out]; exact he.2)
      simp only [Int.toNat_natCast] at hsn hen hat
      obtain ⟨B, off, u, rfl, hB, hcu, o2, cap2, rfl, hu⟩ := hl.out s' hsn
      obtain ⟨B2, off2, rfl, hB2, ha, hb⟩ := hu m hen
      rw [← hat] at ha hb
      have ok := hV.atOk (s := s') (e := m) (by omega) (by rw [hst.out]; exact s1) (by omega) (by rw [hev.out]; exact he.2)
      rw [hst.out] at ok
      have hdrop : l.drop i = (m : Int) :: l.drop (i + 1) := by rw [List.drop_eq_getElem_cons hlt, hm]
      rw [hdrop] at hrun
      simp only [Tb.run] at hrun
      obtain ⟨⟨x1, x2⟩, hx⟩ : ∃ x, T.at s' m = x := ⟨_, rfl⟩
      rw [hx] at ha hb ok hrun
      dsimp only at ha hb ok hrun
      have cu := FF.cell (p := ⟨B, off + s', none⟩) hB (by simp)
      rw [hcu] at cu
      have ca := FF.cell (p := ⟨B2, off2 + m * 2, none⟩) hB2 (by simp)
      rw [ha] at ca
      have cb := FF.cell (p := ⟨B2, off2 + m * 2 + 1, none⟩) hB2 (by simp)
      rw [hb] at cb
      obtain ⟨w1, hw1⟩ : ∃ x, wr.alloc (.cells #[.int .i64 x1, .int .i64 x2] TRow) = x := ⟨_, rfl⟩
      have P1 := Pt.newA wr TRow #[.int .i64 x1, .int .i64 x2]
      rw [hw1] at P1
      have F1 : Fr [] wr w1 := by rw [← hw1]; exact (Fr.refl [] wr).alloc _
      obtain ⟨bx, hbx⟩ : ∃ x, wr.heap.size = x := ⟨_, rfl⟩
      rw [hbx] at P1
      have k1 := P1.cell
      have hsnI : (s' : Int) < (T.rows.length : Int) := by omega
      have henI : (m : Int) < (T.rows[s'].length : Int) := by omega
      clear ha hb hcu hc1 hu
      replace hl := hl; replace P1 := Lib.hid P1; replace F1 := Lib.hid F1; replace FF := Lib.hid FF; replace hF := Lib.hid hF; replace hdrop := Lib.hid hdrop; replace hm := Lib.hid hm; replace hat := Lib.hid hat; replace hx := Lib.hid hx
      have hl200 := hwd.out.1
      have ok1 := ok.2.1
      have ok0 := ok.2.2.2.2
      clear ok
      by_cases hneg : x1 < 0
      · rw [if_pos hneg] at hrun
        clear ok0
        have R : ∀ v, Row 1 wr v outs.length (ints outs) bo → RunR (T.run n0 l) w (.returned (.tuple #[v, .int .i64 s'])) w1 := fun v hv => ⟨v, by rw [hrun], by rw [hrun, List.append_nil]; exact (hv.fr F1.out (by simp)).nin, FF.out.trans F1.out⟩
        have R' := Lib.hid (R _ hrow)
        clear R
        replace hrun := Lib.hid hrun; replace hrow := Lib.hid hrow
        go_wp2_with fail
        go_ret2
        exact R'.out
      · rw [if_neg hneg] at hrun
        clear ok0
        obtain ⟨k', rfl⟩ : ∃ k' : Nat, x1 = k' := ⟨x1.toNat, by omega⟩
        obtain ⟨v', w2, bo', happ, hrow2, hbo2, f2⟩ := (hrow.fr F1.out (by simp)).one (by omega) x2
        have P2 := f2.pt P1.out (by
          cases bo with
          | none => simp
          | some z =>
            have := hrow.lt
            simp; omega)
        have k2 := P2.cell
        have FW : Fr [] w0 w2 := (hF.out.trans F1.out).step f2 (fun z hz => by
          right
          exact hbo z (by simpa using hz))
        have hbo' : ∀ z, bo' = some z → w0.heap.size ≤ z := fun z hz => by
          rcases hbo2 with h | ⟨z', h, h2⟩
          · exact hbo z (by rw [← h]; exact hz)
          · rw [hz] at h; cases h
            have := (hF.out.trans F1.out).size
            omega
        have hlen' : (outs ++ [x2]).length = outs.length + 1 := by simp
        replace happ := Lib.hid happ; replace hrow := Lib.hid hrow; replace hrow2 := Lib.hid hrow2; replace P2 := Lib.hid P2; replace FW := Lib.hid FW; replace hrun := Lib.hid hrun; replace hbo2 := Lib.hid hbo2; replace f2 := Lib.hid f2; replace hbo' := Lib.hid hbo'; replace hbo := Lib.hid hbo; replace hlen' := Lib.hid hlen'
        go_wp2_with (first | (at_builtin; refine wpList_append_run _ rfl _ _ _ rfl rfl rfl happ.out ?_))
        go_roundg (gk - 1)
        case measure => omega
        case rel => exact ⟨i + 1, k', outs ++ [x2], bo', by omega, by omega, rfl, by go_num, ok1, hrow2.out, hbo'.out, by rw [hlen'.out]; omega, FW.out, by rw [hrun.out]; simp⟩
    · have hltI : ¬ (i : Int) < l.length := by omega
      rw [List.drop_eq_nil_of_le (by omega)] at hrun
      simp only [Tb.run, List.append_nil] at hrun
      have R : ∀ v, Row 1 wr v outs.length (ints outs) bo → RunR (T.run n0 l) w (.returned (.tuple #[v, .int .i64 s'])) wr := fun v hv => ⟨v, by rw [hrun], by rw [hrun]; exact hv.nin, F0.out.trans hF⟩
      have R' := Lib.hid (R _ hrow)
      clear R
      replace hrun := Lib.hid hrun; replace hrow := Lib.hid hrow; replace hF := Lib.hid hF
      go_wp2_with fail
      go_ret2
      exact R'.out
end Go.Proofs.Ytkfkkglodjehpaa
namespace Go.Proofs.Ytkfkkglodjehpaa
open Go.RowKit
set_option linter.unusedVariables false
set_option linter.unusedSimpArgs false
set_option maxHeartbeats 8000000
set_option maxRecDepth 20000
def RunR3 (x : List Int × Int × Int) (w : World) (e : Ending) (w' : World) : Prop := ∃ v, e = .returned (.tuple #[v, .int .i64 x.2.1, .int .i64 x.2.2]) ∧ NIn w' v x.1 ∧ Fr [] w w'
theorem NIn.nil (w : World) : NIn w (.slice none 0 0) [] := ⟨none, 0, rfl, fun i h => by simp at h⟩
theorem Run_any (T : Tb) (v : Value) (s : Int) (wv : Value) (l : List Int) (w : World) (hT : TIn w v T) (hD : NIn w wv l) :
    Calls Try.prog 9 #[v, .int .i64 s, wv] w (RunR3 (T.Run s l) w) := by
  obtain ⟨r, rfl, hR⟩ := hT
  have hT' : TIn w (T.val r) T := ⟨r, rfl, hR⟩
  have hval : T.val r = .agg #[.int .i64 T.st, .int .i64 T.ev, .int .i64 T.sr, r] := rfl
  obtain ⟨w0, hw0⟩ : ∃ x, w.alloc (.cells #[.int .i64 T.st, .int .i64 T.ev, .int .i64 T.sr, r] TTab) = x := ⟨_, rfl⟩
  have P0 := Pt.newA w TTab #[.int .i64 T.st, .int .i64 T.ev, .int .i64 T.sr, r]
  rw [hw0] at P0
  have F0 : Fr [] w w0 := by rw [← hw0]; exact (Fr.refl [] w).alloc _
  obtain ⟨bt, hbt⟩ : ∃ x, w.heap.size = x := ⟨_, rfl⟩
  rw [hbt] at P0
  have V1 := fun w' (f : Fr [] w w') => valid_any T (T.val r) w' (hT'.fr f)
  have H1 := fun w' (f : Fr [] w w') => has_any T (T.val r) s w' (hT'.fr f)
  have W1 := fun w' (f : Fr [] w w') => worded_any T (T.val r) wv l w' (hT'.fr f) (hD.fr f)
  have R1 := fun w' (f : Fr [] w w') h1 h2 h3 => trun_any T (T.val r) s wv l w' (hT'.fr f) h1 (hD.fr f) h2 h3
  have C := fun w' (f : Fr [] w0 w') => (f.pt P0 (by simp)).cell
  rw [hval] at V1 H1 W1 R1 ⊢
  have BAD : validT T = false ∨ T.has s = false ∨ T.worded l = false → T.Run s l = ([], 0, 1) := fun h => by
    unfold Tb.Run
    rcases h with h | h | h <;> simp [h]
  replace V1 := Lib.hid V1; replace H1 := Lib.hid H1; replace W1 := Lib.hid W1; replace R1 := Lib.hid R1; replace P0 := Lib.hid P0; replace F0 := Lib.hid F0; replace C := Lib.hid C; replace BAD := Lib.hid BAD
  clear hT' hR hval
  have c0 := C.out w0 (Fr.refl _ _)
  obtain ⟨X, hX⟩ : ∃ X, T.Run s l = X := ⟨_, rfl⟩
  rw [hX]
  cases hv : validT T
  · have hb := Lib.hid (BAD.out (.inl hv))
    go_enter Try.func9, Try.ntmps9
    go_wp2_with fail
    refine (V1.out _ F0.out).mono ?_
    rintro e w1 ⟨rfl, f1⟩
    replace f1 := Lib.hid f1
    replace hX := Lib.hid hX
    rw [hv]
    clear hv
    go_wp2_with fail
    go_ret3
    exact ⟨.slice none 0 0, by rw [← hX.out, hb.out]; rfl, by rw [← hX.out, hb.out]; exact NIn.nil _, F0.out.trans f1.out⟩
  · cases hh : T.has s
    · have hb := Lib.hid (BAD.out (.inr (.inl hh)))
      go_enter Try.func9, Try.ntmps9
      go_wp2_with fail
      refine (V1.out _ F0.out).mono ?_
      rintro e w1 ⟨rfl, f1⟩
      have c1 := C.out w1 f1
      have f01 := F0.out.trans f1
      rw [hv]
      replace f1 := Lib.hid f1; replace f01 := Lib.hid f01
      replace hX := Lib.hid hX
      go_wp2_with fail
      refine (H1.out _ f01.out).mono ?_
      rintro e w2 ⟨rfl, f2⟩
      rw [hh]
      replace f2 := Lib.hid f2
      clear hv hh c1
      go_wp2_with fail
      go_ret3
      exact ⟨.slice none 0 0, by rw [← hX.out, hb.out]; rfl, by rw [← hX.out, hb.out]; exact NIn.nil _, f01.out.trans f2.out⟩
    · cases hw : T.worded l
      · have hb := Lib.hid (BAD.out (.inr (.inr hw)))
        go_enter Try.func9, Try.ntmps9
        go_wp2_with fail
        refine (V1.out _ F0.out).mono ?_
        rintro e w1 ⟨rfl, f1⟩
        have c1 := C.out w1 f1
        have f01 := F0.out.trans f1
        rw [hv]
        replace f1 := Lib.hid f1; replace f01 := Lib.hid f01
        replace hX := Lib.hid hX
        go_wp2_with fail
        refine (H1.out _ f01.out).mono ?_
        rintro e w2 ⟨rfl, f2⟩
        have c2 := C.out w2 (f1.out.trans f2)
        have f02 := f01.out.trans f2
        rw [hh]
        replace f2 := Lib.hid f2; replace f02 := Lib.hid f02
        clear c1
        go_wp2_with fail
        refine (W1.out _ f02.out).mono ?_
        rintro e w3 ⟨rfl, f3⟩
        rw [hw]
        replace f3 := Lib.hid f3
        clear hv hh c2
        go_wp2_with fail
        go_ret3
        exact ⟨.slice none 0 0, by rw [← hX.out, hb.out]; rfl, by rw [← hX.out, hb.out]; exact NIn.nil _, f02.out.trans f3.out⟩
      · have hg : X = ((T.run s l).1, (T.run s l).2, 0) := by rw [← hX]; unfold Tb.Run; rw [hv, hh, hw]; rfl
        have hs : 0 ≤ s ∧ s < T.st := by simpa [Tb.has] using hh
        have RR := Lib.hid (fun w' f => R1.out w' f ((validT_iff T).mp hv) hw hs)
        go_enter Try.func9, Try.ntmps9
        go_wp2_with fail
        refine (V1.out _ F0.out).mono ?_
        rintro e w1 ⟨rfl, f1⟩
        have c1 := C.out w1 f1
        have f01 := F0.out.trans f1
        rw [hv]
        replace f1 := Lib.hid f1; replace f01 := Lib.hid f01
        replace hX := Lib.hid hX; replace hg := Lib.hid hg
        go_wp2_with fail
        refine (H1.out _ f01.out).mono ?_
        rintro e w2 ⟨rfl, f2⟩
        have c2 := C.out w2 (f1.out.trans f2)
        have f02 := f01.out.trans f2
        rw [hh]
        replace f2 := Lib.hid f2; replace f02 := Lib.hid f02
        clear c1
        go_wp2_with fail
        refine (W1.out _ f02.out).mono ?_
        rintro e w3 ⟨rfl, f3⟩
        have c3 := C.out w3 ((f1.out.trans f2.out).trans f3)
        have f03 := f02.out.trans f3
        rw [hw]
        replace f3 := Lib.hid f3; replace f03 := Lib.hid f03
        clear c2
        go_wp2_with fail
        refine (RR.out _ f03.out).mono ?_
        rintro e w4 ⟨v4, rfl, n4, f4⟩
        replace n4 := Lib.hid n4; replace f4 := Lib.hid f4
        clear hv hh hw c3
        go_wp2_with fail
        go_ret3
        exact ⟨v4, by rw [hg.out]; rfl, by rw [hg.out]; exact n4.out, f03.out.trans f4.out⟩
end Go.Proofs.Ytkfkkglodjehpaa
