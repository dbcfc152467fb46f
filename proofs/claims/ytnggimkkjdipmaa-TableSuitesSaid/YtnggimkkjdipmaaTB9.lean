import Derived.Test.YtnggimkkjdipmaaTB4
import Derived.Lib.SliceRun
import Derived.Deep.Cut
namespace Go.Proofs.Ytnggimkkjdipmaa
open Go.RowKit
set_option linter.unusedVariables false
set_option linter.unusedSimpArgs false
set_option maxHeartbeats 8000000
set_option maxRecDepth 20000
def ints (l : List Int) : List Value := l.map (.int .i64)
theorem ints_app (l r : List Int) : ints (l ++ r) = ints l ++ ints r := List.map_append
theorem ints_len (l : List Int) : (ints l).length = l.length := List.length_map _
theorem uInt : Try.prog.underlying 3 = some (.int .i64) := by kernel_rfl
theorem uInts : Try.prog.underlying 25 = some (.slice 3) := by kernel_rfl
noncomputable def iInt : TypeInfo := (Try.prog.info? 3).getD default
theorem infoInt : Try.prog.info? 3 = some iInt := by kernel_rfl
noncomputable def zInt : Value := iInt.zero.getD default
/-- append whose run is known, in the walk. -/
theorem wpList_append_run {P : Program} (w : World) {ops : Array Oper} {rest : List Oper} {o : Oper} {a : Act} {Q : Exit → Act → World → Prop} (hgd : o.guard = none) (s x : Operand) (t : TypeId)
    (ho : o.op = .call { callee := .builtin .append, args := #[s, x], argTypes := #[t, t] }) {v xv v' : Value} {w' : World} (hv : a.eval s = v) (hx : a.eval x = xv)
    (hrun : (Builtin.append_ #[t, t] o.type #[v, xv]).run P w = .ok v' w') (hK : wpList P ops Q rest (a.put o.dst v') w') : wpList P ops Q (o :: rest) a w := by
  refine wpList_plain hgd fun K hK' => ?_
  unfold Oper.wp
  simp [execOp, ho, resolve, invoke, builtin, hv, hx, hrun, Result.andThen]
  exact hK' _ _ hK
/-- One more number. -/
theorem Row.one {w : World} {v : Value} {l : List Int} {bo : Option Nat} (h : Row 1 w v l.length (ints l) bo) (hn : l.length < 1000000) (x : Int) :
    ∃ v' w' bo', (Builtin.append_ #[25, 25] 25 #[v, .slice (some ⟨w.heap.size, 0, none⟩) 1 1]).run Try.prog (w.alloc (.cells #[.int .i64 x] 3)) = .ok v' w' ∧
      Row 1 w' v' (l ++ [x]).length (ints (l ++ [x])) bo' ∧ (bo' = bo ∨ ∃ z, bo' = some z ∧ w.heap.size ≤ z) ∧ Fr bo.toList w w' := by
  have f1 : Fr [] w (w.alloc (.cells #[.int .i64 x] 3)) := (Fr.refl [] w).alloc _
  have P1 := Pt.newA w 3 #[.int .i64 x]
  have h1 := h.fr f1 (by simp)
  have hsrc : Src Try.prog 1 25 (.slice (some ⟨w.heap.size, 0, none⟩) 1 1) 1 (ints [x]) (w.alloc (.cells #[.int .i64 x] 3)) := Src.ofSlice _ uInts ⟨w.heap.size, 0, none⟩ 1 1 _ rfl (fun j u hu => by rw [Addr.add_lit, P1.cell, Nat.zero_add]; exact hu) (by intro u hu; simp [ints] at hu; rcases hu with rfl; rfl)
  obtain ⟨v', w', bo', hrun, hr, hb, hf⟩ := h1.append (t := 25) (ty := 25) (e := 3) (i := iInt) (z := zInt) uInts infoInt (by kernel_rfl) (by kernel_rfl) (by omega) (by kernel_rfl) (of_decide_eq_true (by kernel_rfl)) hn hsrc (by omega) (by omega)
  refine ⟨v', w', bo', hrun, ?_, ?_, (f1.mono (by simp)).trans hf⟩
  · rw [ints_app, List.length_append]; exact hr
  · rcases hb with hb | hb
    · exact .inl hb
    · exact .inr ⟨_, hb, f1.size⟩

theorem Row.nin {w : World} {v : Value} {l : List Int} {bo : Option Nat} (h : Row 1 w v l.length (ints l) bo) : NIn w v l := by
  rcases h with ⟨_, h2, _, o, rfl⟩ | ⟨b, off, cap, hb, rfl, h3, h4, _, _, h7⟩
  · exact ⟨o, 0, by rw [h2], fun i h => by omega⟩
  · exact ⟨_, cap, rfl, fun i h => ⟨b, off, rfl, h4, by rw [h7 i (by omega)]; simp [ints, h]⟩⟩
theorem has_any (T : Tb) (v : Value) (s : Int) (w : World) (h : TIn w v T) : Calls Try.prog 51 #[v, .int .i64 s] w fun e w' => e = .returned (.bool (T.has s)) ∧ Fr [] w w' := by
  obtain ⟨r, rfl, _⟩ := h
  obtain ⟨st, ev, sr, rows⟩ := T
  dsimp only [Tb.val]
  have F0 : ∀ o, Fr [] w (w.alloc o) := fun o => (Fr.refl [] w).alloc o
  rcases (by omega : s < 0 ∨ (0 ≤ s ∧ s < st) ∨ (0 ≤ s ∧ ¬ s < st)) with h | ⟨h, h2⟩ | ⟨h, h2⟩
  · have hr : Tb.has ⟨st, ev, sr, rows⟩ s = false := by unfold Tb.has; rw [decide_eq_false (by omega)]; rfl
    rw [hr]
    clear hr
    go_enter Try.func51, Try.ntmps51
    go_wp2_with fail
    go_ret
    exact ⟨rfl, F0 _⟩
  · have hr : Tb.has ⟨st, ev, sr, rows⟩ s = true := by unfold Tb.has; rw [decide_eq_true h, decide_eq_true h2]; rfl
    rw [hr]
    clear hr
    go_enter Try.func51, Try.ntmps51
    go_wp2_with fail
    go_ret
    exact ⟨rfl, F0 _⟩
  · have hr : Tb.has ⟨st, ev, sr, rows⟩ s = false := by unfold Tb.has; rw [decide_eq_true h, decide_eq_false h2]; rfl
    rw [hr]
    clear hr
    go_enter Try.func51, Try.ntmps51
    go_wp2_with fail
    go_ret
    exact ⟨rfl, F0 _⟩
/-- What no event is. -/
def offE (ev e : Int) : Bool := decide (e < 0) || decide (ev ≤ e)
theorem offE_any (b : Nat) (ev e : Int) (w : World) (hc : w.cell? ⟨b, 1, none⟩ = some (.int .i64 ev)) :
    Calls Try.prog 88 #[.int .i64 e, .pointer (some ⟨b, 0, none⟩)] w fun r w' => r = .returned (.bool (offE ev e)) ∧ w = w' := by
  unfold offE
  by_cases h : e < 0
  · rw [decide_eq_true h, Bool.true_or]
    go_enter Try.func88, Try.ntmps88
    go_wp2_with fail
    go_ret
    exact ⟨rfl, rfl⟩
  · rw [decide_eq_false h, Bool.false_or]
    go_enter Try.func88, Try.ntmps88
    go_wp2_with fail
    go_ret
    exact ⟨rfl, rfl⟩
theorem indexW_any (v : Value) (l : List Int) (ev : Int) (w : World) (b : Nat) (hD : NIn w v l) (hn : l.length < 1000000) (hc : w.cell? ⟨b, 1, none⟩ = some (.int .i64 ev)) :
    Calls Try.prog 102 #[v, .func (.func 88) #[] #[.pointer (some ⟨b, 0, none⟩)]] w fun e w' => (∃ k : Int, e = .returned (.int .i64 k) ∧ decide (0 ≤ k) = l.any (offE ev)) ∧ w = w' := by
  obtain ⟨o, cap, rfl, hl⟩ := hD
  have hp := fun n => offE_any b ev n w hc
  replace hl := Lib.hid hl; replace hp := Lib.hid hp
  clear hc
  go_enter Try.func102, Try.ntmps102
  go_wp2_with fail
  go_loop [8] (fun v => ∃ i : Nat, i ≤ l.length ∧ v = .int .i64 i ∧ (l.take i).any (offE ev) = false) (fun v => (l.length - intOf v).toNat)
  case atStart => exact ⟨0, by omega, rfl, by simp⟩
  case round =>
    obtain ⟨i, hi, rfl, hni⟩ := hrel
    by_cases hlt : (i : Int) < l.length
    · have hil : i < l.length := by omega
      obtain ⟨b, off, rfl, hb, hc⟩ := hl.out i hil
      have hcall := Lib.hid (hp.out l[i])
      have hnn : offE ev l[i] = false → (l.take (i + 1)).any (offE ev) = false := fun h => by
        rw [List.take_succ_eq_append_getElem hil, List.any_append, hni]
        simp [h]
      have hyes : offE ev l[i] = true → l.any (offE ev) = true := fun h => List.any_eq_true.mpr ⟨_, List.getElem_mem hil, h⟩
      replace hni := Lib.hid hni; replace hnn := Lib.hid hnn; replace hyes := Lib.hid hyes
      obtain ⟨y, hy⟩ : ∃ y, l[i] = y := ⟨_, rfl⟩
      rw [hy] at hc hcall hnn hyes
      obtain ⟨py, hpy⟩ : ∃ t, offE ev y = t := ⟨_, rfl⟩
      rw [hpy] at hcall hnn hyes
      clear hy hpy
      go_wp2_with fail
      refine hcall.out.mono ?_
      rintro e w1 ⟨rfl, rfl⟩
      cases py
      · go_wp2
        go_round
        case rel => exact ⟨i + 1, by omega, by go_num, hnn.out trivial⟩
        case measure => simp [intOf]; omega
      · go_wp2
        go_ret
        exact ⟨⟨i, rfl, by rw [hyes.out trivial]; simp⟩, rfl⟩
    · have hid : i = l.length := by omega
      subst hid
      rw [List.take_length] at hni
      replace hni := Lib.hid hni
      go_wp2
      go_ret
      exact ⟨⟨-1, rfl, by rw [hni.out]; rfl⟩, rfl⟩
theorem containsW_any (v : Value) (l : List Int) (ev : Int) (w : World) (b : Nat) (hD : NIn w v l) (hn : l.length < 1000000) (hc : w.cell? ⟨b, 1, none⟩ = some (.int .i64 ev)) :
    Calls Try.prog 87 #[v, .func (.func 88) #[] #[.pointer (some ⟨b, 0, none⟩)]] w fun e w' => e = .returned (.bool (l.any (offE ev))) ∧ w = w' := by
  have H := Lib.hid (indexW_any v l ev w b hD hn hc)
  clear hD hc
  go_enter Try.func87, Try.ntmps87
  go_wp2_with fail
  refine H.out.mono ?_
  rintro e w1 ⟨⟨k, rfl, hk⟩, rfl⟩
  replace hk := Lib.hid hk
  go_wp2_with fail
  go_ret
  exact ⟨ret_b hk.out, rfl⟩
theorem worded_eq (T : Tb) (l : List Int) : T.worded l = (decide (l.length ≤ 200) && !l.any (offE T.ev)) := by
  unfold Tb.worded
  congr 1
  rw [Bool.eq_iff_iff]
  simp only [List.all_eq_true, Bool.not_eq_true', List.any_eq_false, offE, Bool.or_eq_true, decide_eq_true_eq, Bool.and_eq_true]
  exact ⟨fun h x hx => by have := h x hx; omega, fun h x hx => by have := h x hx; omega⟩
end Go.Proofs.Ytnggimkkjdipmaa
namespace Go.Proofs.Ytnggimkkjdipmaa
open Go.RowKit
set_option linter.unusedVariables false
set_option linter.unusedSimpArgs false
set_option maxHeartbeats 8000000
set_option maxRecDepth 20000
theorem worded_any (T : Tb) (v : Value) (wv : Value) (l : List Int) (w : World) (h : TIn w v T) (hD : NIn w wv l) : Calls Try.prog 52 #[v, wv] w fun e w' => e = .returned (.bool (T.worded l)) ∧ Fr [] w w' := by
  rw [worded_eq]
  obtain ⟨r, rfl, _⟩ := h
  obtain ⟨st, ev, sr, rows⟩ := T
  dsimp only [Tb.val]
  obtain ⟨w0, hw0⟩ : ∃ x, w.alloc (.cells #[.int .i64 st, .int .i64 ev, .int .i64 sr, r] TTab) = x := ⟨_, rfl⟩
  have P0 := Pt.newA w TTab #[.int .i64 st, .int .i64 ev, .int .i64 sr, r]
  rw [hw0] at P0
  have F0 : Fr [] w w0 := by rw [← hw0]; exact (Fr.refl [] w).alloc _
  obtain ⟨bt, hbt⟩ : ∃ x, w.heap.size = x := ⟨_, rfl⟩
  rw [hbt] at P0
  by_cases hl : l.length ≤ 200
  · have C := Lib.hid (containsW_any wv l ev w0 bt (hD.fr F0) (by omega) (P0.cell 1))
    rw [decide_eq_true hl, Bool.true_and]
    obtain ⟨o, cap, rfl, _⟩ := hD
    have hl2 : (l.length : Int) ≤ 200 := by omega
    clear hl
    replace F0 := Lib.hid F0
    replace P0 := Lib.hid P0
    obtain ⟨q, hq⟩ : ∃ q, l.any (offE ev) = q := ⟨_, rfl⟩
    rw [hq] at C ⊢
    clear hq
    go_enter Try.func52, Try.ntmps52
    go_wp2_with fail
    refine C.out.mono ?_
    rintro e w1 ⟨rfl, rfl⟩
    go_wp2_with fail
    go_ret
    exact ⟨rfl, F0.out⟩
  · rw [decide_eq_false hl, Bool.false_and]
    obtain ⟨o, cap, rfl, _⟩ := hD
    have hl2 : ¬ (l.length : Int) ≤ 200 := by omega
    clear hl
    replace F0 := Lib.hid F0
    replace P0 := Lib.hid P0
    go_enter Try.func52, Try.ntmps52
    go_wp2_with fail
    go_ret
    exact ⟨rfl, F0.out⟩
/-- What a run hands back. -/
def RunR (x : List Int × Int) (w : World) (e : Ending) (w' : World) : Prop := ∃ v, e = .returned (.tuple #[v, .int .i64 x.2]) ∧ NIn w' v x.1 ∧ Fr [] w w'
theorem trun_any (T : Tb) (v : Value) (s : Int) (wv : Value) (l : List Int) (w : World) (hT : TIn w v T) (hV : VT T) (hD : NIn w wv l) (hw : T.worded l = true) (hs : 0 ≤ s ∧ s < T.st) :
    Calls Try.prog 53 #[v, .int .i64 s, wv] w (RunR (T.run s l) w) := by
  have hwd : l.length ≤ 200 ∧ ∀ e ∈ l, 0 ≤ e ∧ e < T.ev := by
    simp only [Tb.worded, Bool.and_eq_true, List.all_eq_true, decide_eq_true_eq] at hw
    exact ⟨hw.1, fun e he => hw.2 e he⟩
  clear hw
  obtain ⟨r, rfl, hR⟩ := hT
  have hval : T.val r = .agg #[.int .i64 T.st, .int .i64 T.ev, .int .i64 T.sr, r] := rfl
  rw [hval]
  obtain ⟨st, hst⟩ : ∃ x, T.st = x := ⟨_, rfl⟩
  obtain ⟨ev, hev⟩ : ∃ x, T.ev = x := ⟨_, rfl⟩
  obtain ⟨sr, hsr⟩ : ∃ x, T.sr = x := ⟨_, rfl⟩
  rw [hst, hev, hsr]
  rw [hst] at hs
  rw [hev] at hwd
  obtain ⟨w0, hw0⟩ : ∃ x, w.alloc (.cells #[.int .i64 st, .int .i64 ev, .int .i64 sr, r] TTab) = x := ⟨_, rfl⟩
  have P0 := Pt.newA w TTab #[.int .i64 st, .int .i64 ev, .int .i64 sr, r]
  rw [hw0] at P0
  have F0 : Fr [] w w0 := by rw [← hw0]; exact (Fr.refl [] w).alloc _
  obtain ⟨bt, hbt⟩ : ∃ x, w.heap.size = x := ⟨_, rfl⟩
  rw [hbt] at P0
  obtain ⟨o, cap, rfl, hl⟩ := hR
  obtain ⟨o1, cap1, rfl, hd⟩ := hD
  have hst2 := hV.st
  rw [hst] at hst2
  replace hl := Lib.hid hl; replace hd := Lib.hid hd; replace P0 := Lib.hid P0; replace F0 := Lib.hid F0; replace hst := Lib.hid hst; replace hev := Lib.hid hev; replace hsr := Lib.hid hsr; replace hwd := Lib.hid hwd
  clear hval
  go_enter Try.func53, Try.ntmps53
  go_wp2_with fail
  clear hw0
  obtain ⟨n0, rfl⟩ : ∃ n : Nat, s = n := ⟨s.toNat, by omega⟩
  go_loopg [1, 8, 14] (l.length + 1) (fun k v1 v8 v14 wr => ∃ (i : Nat) (s' : Nat) (outs : List Int) (bo : Option Nat), i ≤ l.length ∧ k + i = l.length + 1 ∧ v1 = .int .i64 s' ∧ v14 = .int .i64 i ∧ (s' : Int) < st ∧ Row 1 wr v8 outs.length (ints outs) bo ∧ (∀ z, bo = some z → w0.heap.size ≤ z) ∧ outs.length ≤ i ∧ Fr [] w0 wr ∧ T.run n0 l = (outs ++ (T.run s' (l.drop i)).1, (T.run s' (l.drop i)).2))
  case atStart => exact ⟨0, n0, [], none, by omega, by omega, rfl, rfl, hs.2, Row.nil 1 _ none, by simp, by simp, Fr.refl _ _, by simp⟩
  case round =>
    obtain ⟨i, s', outs, bo, hi, hk, rfl, rfl, s1, hrow, hbo, hlo, hF, hrun⟩ := hrel
    have kt := (hF.pt P0.out (by simp)).cell
    have lbt := (hF.pt P0.out (by simp)).lt
    by_cases hlt : i < l.length
    · have hltI : (i : Int) < l.length := by omega
      obtain ⟨b1, off1, rfl, hb1, hc1⟩ := hd.out i hlt
      have FF := F0.out.trans hF
      have he := hwd.out.2 _ (List.getElem_mem hlt)
      obtain ⟨m, hm⟩ : ∃ m : Nat, l[i] = m := ⟨l[i].toNat, by omega⟩
      rw [hm] at hc1 he
      have c1 := FF.cell (p := ⟨b1, off1 + i, none⟩) hb1 (by simp)
      rw [hc1] at c1
      obtain ⟨hsn, hen, hat⟩ := hV.get (s := s') (e := m) (by omega) (by rw [hst.out]; exact s1) (by omega) (by rw [hev.out]; exact he.2)
      simp only [Int.toNat_natCast] at hsn hen hat
      obtain ⟨B, off, u, rfl, hB, hcu, o2, cap2, rfl, hu⟩ := hl.out s' hsn
      obtain ⟨B2, off2, rfl, hB2, ha, hb⟩ := hu m hen
      rw [← hat] at ha hb
      have ok := hV.atOk (s := s') (e := m) (by omega) (by rw [hst.out]; exact s1) (by omega) (by rw [hev.out]; exact he.2)
      rw [hst.out] at ok
      have hdrop : l.drop i = (m : Int) :: l.drop (i + 1) := by rw [List.drop_eq_getElem_cons hlt, hm]
      rw [hdrop] at hrun
      simp only [Tb.run] at hrun
      obtain ⟨⟨x1, x2⟩, hx⟩ : ∃ x, T.at s' m = x := ⟨_, rfl⟩
      rw [hx] at ha hb ok hrun
      dsimp only at ha hb ok hrun
      have cu := FF.cell (p := ⟨B, off + s', none⟩) hB (by simp)
      rw [hcu] at cu
      have ca := FF.cell (p := ⟨B2, off2 + m * 2, none⟩) hB2 (by simp)
      rw [ha] at ca
      have cb := FF.cell (p := ⟨B2, off2 + m * 2 + 1, none⟩) hB2 (by simp)
      rw [hb] at cb
      obtain ⟨w1, hw1⟩ : ∃ x, wr.alloc (.cells #[.int .i64 x1, .int .i64 x2] TRow) = x := ⟨_, rfl⟩
      have P1 := Pt.newA wr TRow #[.int .i64 x1, .int .i64 x2]
      rw [hw1] at P1
      have F1 : Fr [] wr w1 := by rw [← hw1]; exact (Fr.refl [] wr).alloc _
      obtain ⟨bx, hbx⟩ : ∃ x, wr.heap.size = x := ⟨_, rfl⟩
      rw [hbx] at P1
      have k1 := P1.cell
      have hsnI : (s' : Int) < (T.rows.length : Int) := by omega
      have henI : (m : Int) < (T.rows[s'].length : Int) := by omega
      clear ha hb hcu hc1 hu
      replace hl := hl; replace P1 := Lib.hid P1; replace F1 := Lib.hid F1; replace FF := Lib.hid FF; replace hF := Lib.hid hF; replace hdrop := Lib.hid hdrop; replace hm := Lib.hid hm; replace hat := Lib.hid hat; replace hx := Lib.hid hx
      have hl200 := hwd.out.1
      have ok1 := ok.2.1
      have ok0 := ok.2.2.2.2
      clear ok
      by_cases hneg : x1 < 0
      · rw [if_pos hneg] at hrun
        clear ok0
        have R : ∀ v, Row 1 wr v outs.length (ints outs) bo → RunR (T.run n0 l) w (.returned (.tuple #[v, .int .i64 s'])) w1 := fun v hv => ⟨v, by rw [hrun], by rw [hrun, List.append_nil]; exact (hv.fr F1.out (by simp)).nin, FF.out.trans F1.out⟩
        have R' := Lib.hid (R _ hrow)
        clear R
        replace hrun := Lib.hid hrun; replace hrow := Lib.hid hrow
        go_wp2_with fail
        go_ret2
        exact R'.out
      · rw [if_neg hneg] at hrun
        clear ok0
        obtain ⟨k', rfl⟩ : ∃ k' : Nat, x1 = k' := ⟨x1.toNat, by omega⟩
        obtain ⟨v', w2, bo', happ, hrow2, hbo2, f2⟩ := (hrow.fr F1.out (by simp)).one (by omega) x2
        have P2 := f2.pt P1.out (by
          cases bo with
          | none => simp
          | some z =>
            have := hrow.lt
            simp; omega)
        have k2 := P2.cell
        have FW : Fr [] w0 w2 := (hF.out.trans F1.out).step f2 (fun z hz => by
          right
          exact hbo z (by simpa using hz))
        have hbo' : ∀ z, bo' = some z → w0.heap.size ≤ z := fun z hz => by
          rcases hbo2 with h | ⟨z', h, h2⟩
          · exact hbo z (by rw [← h]; exact hz)
          · rw [hz] at h; cases h
            have := (hF.out.trans F1.out).size
            omega
        have hlen' : (outs ++ [x2]).length = outs.length + 1 := by simp
        replace happ := Lib.hid happ; replace hrow := Lib.hid hrow; replace hrow2 := Lib.hid hrow2; replace P2 := Lib.hid P2; replace FW := Lib.hid FW; replace hrun := Lib.hid hrun; replace hbo2 := Lib.hid hbo2; replace f2 := Lib.hid f2; replace hbo' := Lib.hid hbo'; replace hbo := Lib.hid hbo; replace hlen' := Lib.hid hlen'
        go_wp2_with (first | (at_builtin; refine wpList_append_run _ rfl _ _ _ rfl rfl rfl happ.out ?_))
        go_roundg (gk - 1)
        case measure => omega
        case rel => exact ⟨i + 1, k', outs ++ [x2], bo', by omega, by omega, rfl, by go_num, ok1, hrow2.out, hbo'.out, by rw [hlen'.out]; omega, FW.out, by rw [hrun.out]; simp⟩
    · have hltI : ¬ (i : Int) < l.length := by omega
      rw [List.drop_eq_nil_of_le (by omega)] at hrun
      simp only [Tb.run, List.append_nil] at hrun
      have R : ∀ v, Row 1 wr v outs.length (ints outs) bo → RunR (T.run n0 l) w (.returned (.tuple #[v, .int .i64 s'])) wr := fun v hv => ⟨v, by rw [hrun], by rw [hrun]; exact hv.nin, F0.out.trans hF⟩
      have R' := Lib.hid (R _ hrow)
      clear R
      replace hrun := Lib.hid hrun; replace hrow := Lib.hid hrow; replace hF := Lib.hid hF
      go_wp2_with fail
      go_ret2
      exact R'.out
end Go.Proofs.Ytnggimkkjdipmaa
namespace Go.Proofs.Ytnggimkkjdipmaa
open Go.RowKit
set_option linter.unusedVariables false
set_option linter.unusedSimpArgs false
set_option maxHeartbeats 8000000
set_option maxRecDepth 20000
def RunR3 (x : List Int × Int × Int) (w : World) (e : Ending) (w' : World) : Prop := ∃ v, e = .returned (.tuple #[v, .int .i64 x.2.1, .int .i64 x.2.2]) ∧ NIn w' v x.1 ∧ Fr [] w w'
theorem NIn.nil (w : World) : NIn w (.slice none 0 0) [] := ⟨none, 0, rfl, fun i h => by simp at h⟩
theorem Run_any (T : Tb) (v : Value) (s : Int) (wv : Value) (l : List Int) (w : World) (hT : TIn w v T) (hD : NIn w wv l) :
    Calls Try.prog 16 #[v, .int .i64 s, wv] w (RunR3 (T.Run s l) w) := by
  obtain ⟨r, rfl, hR⟩ := hT
  have hT' : TIn w (T.val r) T := ⟨r, rfl, hR⟩
  have hval : T.val r = .agg #[.int .i64 T.st, .int .i64 T.ev, .int .i64 T.sr, r] := rfl
  obtain ⟨w0, hw0⟩ : ∃ x, w.alloc (.cells #[.int .i64 T.st, .int .i64 T.ev, .int .i64 T.sr, r] TTab) = x := ⟨_, rfl⟩
  have P0 := Pt.newA w TTab #[.int .i64 T.st, .int .i64 T.ev, .int .i64 T.sr, r]
  rw [hw0] at P0
  have F0 : Fr [] w w0 := by rw [← hw0]; exact (Fr.refl [] w).alloc _
  obtain ⟨bt, hbt⟩ : ∃ x, w.heap.size = x := ⟨_, rfl⟩
  rw [hbt] at P0
  have V1 := fun w' (f : Fr [] w w') => valid_any T (T.val r) w' (hT'.fr f)
  have H1 := fun w' (f : Fr [] w w') => has_any T (T.val r) s w' (hT'.fr f)
  have W1 := fun w' (f : Fr [] w w') => worded_any T (T.val r) wv l w' (hT'.fr f) (hD.fr f)
  have R1 := fun w' (f : Fr [] w w') h1 h2 h3 => trun_any T (T.val r) s wv l w' (hT'.fr f) h1 (hD.fr f) h2 h3
  have C := fun w' (f : Fr [] w0 w') => (f.pt P0 (by simp)).cell
  rw [hval] at V1 H1 W1 R1 ⊢
  have BAD : validT T = false ∨ T.has s = false ∨ T.worded l = false → T.Run s l = ([], 0, 1) := fun h => by
    unfold Tb.Run
    rcases h with h | h | h <;> simp [h]
  replace V1 := Lib.hid V1; replace H1 := Lib.hid H1; replace W1 := Lib.hid W1; replace R1 := Lib.hid R1; replace P0 := Lib.hid P0; replace F0 := Lib.hid F0; replace C := Lib.hid C; replace BAD := Lib.hid BAD
  clear hT' hR hval
  have c0 := C.out w0 (Fr.refl _ _)
  obtain ⟨X, hX⟩ : ∃ X, T.Run s l = X := ⟨_, rfl⟩
  rw [hX]
  cases hv : validT T
  · have hb := Lib.hid (BAD.out (.inl hv))
    go_enter Try.func16, Try.ntmps16
    go_wp2_with fail
    refine (V1.out _ F0.out).mono ?_
    rintro e w1 ⟨rfl, f1⟩
    replace f1 := Lib.hid f1
    replace hX := Lib.hid hX
    rw [hv]
    clear hv
    go_wp2_with fail
    go_ret3
    exact ⟨.slice none 0 0, by rw [← hX.out, hb.out]; rfl, by rw [← hX.out, hb.out]; exact NIn.nil _, F0.out.trans f1.out⟩
  · cases hh : T.has s
    · have hb := Lib.hid (BAD.out (.inr (.inl hh)))
      go_enter Try.func16, Try.ntmps16
      go_wp2_with fail
      refine (V1.out _ F0.out).mono ?_
      rintro e w1 ⟨rfl, f1⟩
      have c1 := C.out w1 f1
      have f01 := F0.out.trans f1
      rw [hv]
      replace f1 := Lib.hid f1; replace f01 := Lib.hid f01
      replace hX := Lib.hid hX
      go_wp2_with fail
      refine (H1.out _ f01.out).mono ?_
      rintro e w2 ⟨rfl, f2⟩
      rw [hh]
      replace f2 := Lib.hid f2
      clear hv hh c1
      go_wp2_with fail
      go_ret3
      exact ⟨.slice none 0 0, by rw [← hX.out, hb.out]; rfl, by rw [← hX.out, hb.out]; exact NIn.nil _, f01.out.trans f2.out⟩
    · cases hw : T.worded l
      · have hb := Lib.hid (BAD.out (.inr (.inr hw)))
        go_enter Try.func16, Try.ntmps16
        go_wp2_with fail
        refine (V1.out _ F0.out).mono ?_
        rintro e w1 ⟨rfl, f1⟩
        have c1 := C.out w1 f1
        have f01 := F0.out.trans f1
        rw [hv]
        replace f1 := Lib.hid f1; replace f01 := Lib.hid f01
        replace hX := Lib.hid hX
        go_wp2_with fail
        refine (H1.out _ f01.out).mono ?_
        rintro e w2 ⟨rfl, f2⟩
        have c2 := C.out w2 (f1.out.trans f2)
        have f02 := f01.out.trans f2
        rw [hh]
        replace f2 := Lib.hid f2; replace f02 := Lib.hid f02
        clear c1
        go_wp2_with fail
        refine (W1.out _ f02.out).mono ?_
        rintro e w3 ⟨rfl, f3⟩
        rw [hw]
        replace f3 := Lib.hid f3
        clear hv hh c2
        go_wp2_with fail
        go_ret3
        exact ⟨.slice none 0 0, by rw [← hX.out, hb.out]; rfl, by rw [← hX.out, hb.out]; exact NIn.nil _, f02.out.trans f3.out⟩
      · have hg : X = ((T.run s l).1, (T.run s l).2, 0) := by rw [← hX]; unfold Tb.Run; rw [hv, hh, hw]; rfl
        have hs : 0 ≤ s ∧ s < T.st := by simpa [Tb.has] using hh
        have RR := Lib.hid (fun w' f => R1.out w' f ((validT_iff T).mp hv) hw hs)
        go_enter Try.func16, Try.ntmps16
        go_wp2_with fail
        refine (V1.out _ F0.out).mono ?_
        rintro e w1 ⟨rfl, f1⟩
        have c1 := C.out w1 f1
        have f01 := F0.out.trans f1
        rw [hv]
        replace f1 := Lib.hid f1; replace f01 := Lib.hid f01
        replace hX := Lib.hid hX; replace hg := Lib.hid hg
        go_wp2_with fail
        refine (H1.out _ f01.out).mono ?_
        rintro e w2 ⟨rfl, f2⟩
        have c2 := C.out w2 (f1.out.trans f2)
        have f02 := f01.out.trans f2
        rw [hh]
        replace f2 := Lib.hid f2; replace f02 := Lib.hid f02
        clear c1
        go_wp2_with fail
        refine (W1.out _ f02.out).mono ?_
        rintro e w3 ⟨rfl, f3⟩
        have c3 := C.out w3 ((f1.out.trans f2.out).trans f3)
        have f03 := f02.out.trans f3
        rw [hw]
        replace f3 := Lib.hid f3; replace f03 := Lib.hid f03
        clear c2
        go_wp2_with fail
        refine (RR.out _ f03.out).mono ?_
        rintro e w4 ⟨v4, rfl, n4, f4⟩
        replace n4 := Lib.hid n4; replace f4 := Lib.hid f4
        clear hv hh hw c3
        go_wp2_with fail
        go_ret3
        exact ⟨v4, by rw [hg.out]; rfl, by rw [hg.out]; exact n4.out, f03.out.trans f4.out⟩
end Go.Proofs.Ytnggimkkjdipmaa
namespace Go.Proofs.Ytnggimkkjdipmaa
open Go.RowKit
set_option linter.unusedVariables false
set_option linter.unusedSimpArgs false
set_option maxHeartbeats 8000000
set_option maxRecDepth 20000
theorem rword_any (ev : Int) (wv : Value) (l : List Int) (w : World) (hD : NIn w wv l) (hln : l.length ≤ 9223372036854775807) :
    Calls Try.prog 54 #[wv, .int .i64 ev] w fun e w' => e = .returned (.bool (decide (l.length ≤ 200) && !l.any (offE ev))) ∧ w = w' := by
  obtain ⟨o, cap, rfl, hl⟩ := hD
  have hno : ∀ i (h : i < l.length), offE ev l[i] = true → (decide (l.length ≤ 200) && !l.any (offE ev)) = false := fun i h ho => by
    rw [List.any_eq_true.mpr ⟨_, List.getElem_mem h, ho⟩]; simp
  have hyes : (l.take l.length).any (offE ev) = false → (decide (l.length ≤ 200) && !l.any (offE ev)) = decide ((l.length : Int) ≤ 200) := fun h => by
    rw [List.take_length] at h
    rw [h]
    simp only [Bool.not_false, Bool.and_true]
    exact decide_eq_decide.mpr (by omega)
  obtain ⟨X, hX⟩ : ∃ X, (decide (l.length ≤ 200) && !l.any (offE ev)) = X := ⟨_, rfl⟩
  simp only [hX] at hno hyes
  rw [hX]
  clear hX
  replace hl := Lib.hid hl; replace hno := Lib.hid hno; replace hyes := Lib.hid hyes
  go_enter Try.func54, Try.ntmps54
  go_wp2_with fail
  go_loop [5] (fun v => ∃ i : Nat, i ≤ l.length ∧ v = .int .i64 i ∧ (l.take i).any (offE ev) = false) (fun v => (l.length - intOf v).toNat)
  case atStart => exact ⟨0, by omega, rfl, by simp⟩
  case round =>
    obtain ⟨i, hi, rfl, hni⟩ := hrel
    by_cases hlt : i < l.length
    · have hltI : (i : Int) < l.length := by omega
      obtain ⟨b, off, rfl, hb, hc⟩ := hl.out i hlt
      have no1 := hno.out i hlt
      have hnn : offE ev l[i] = false → (l.take (i + 1)).any (offE ev) = false := fun h => by
        rw [List.take_succ_eq_append_getElem hlt, List.any_append, hni]
        simp [h]
      obtain ⟨y, hy⟩ : ∃ y, l[i] = y := ⟨_, rfl⟩
      rw [hy] at hc no1 hnn
      replace hni := Lib.hid hni; replace no1 := Lib.hid no1; replace hnn := Lib.hid hnn
      clear hy
      rcases (by omega : y < 0 ∨ (¬ y < 0 ∧ ev ≤ y) ∨ (¬ y < 0 ∧ ¬ ev ≤ y)) with h1 | ⟨h1, h2⟩ | ⟨h1, h2⟩
      · have e1 := Lib.hid (no1.out (by unfold offE; rw [decide_eq_true h1]; rfl))
        go_wp2_with fail
        go_ret
        exact ⟨ret_b e1.out.symm, rfl⟩
      · have e1 := Lib.hid (no1.out (by unfold offE; rw [decide_eq_true h2]; simp))
        go_wp2_with fail
        go_ret
        exact ⟨ret_b e1.out.symm, rfl⟩
      · have e1 := Lib.hid (hnn.out (by unfold offE; rw [decide_eq_false h1, decide_eq_false h2]; rfl))
        go_wp2_with fail
        go_round
        case rel => exact ⟨i + 1, by omega, by go_num, e1.out⟩
        case measure => simp [intOf]; omega
    · have hid : i = l.length := by omega
      subst hid
      have e1 := Lib.hid (hyes.out hni)
      replace hni := Lib.hid hni
      go_wp2_with fail
      go_ret
      exact ⟨ret_b e1.out.symm, rfl⟩
theorem rrun_any (T : Tb) (v : Value) (s : Int) (wv : Value) (l : List Int) (w : World) (hT : TIn w v T) (hV : VT T) (hD : NIn w wv l) (hw : T.worded l = true) (hs : 0 ≤ s ∧ s < T.st) :
    Calls Try.prog 55 #[v, .int .i64 s, wv] w (RunR (T.run s l) w) := by
  have hwd : l.length ≤ 200 ∧ ∀ e ∈ l, 0 ≤ e ∧ e < T.ev := by
    simp only [Tb.worded, Bool.and_eq_true, List.all_eq_true, decide_eq_true_eq] at hw
    exact ⟨hw.1, fun e he => hw.2 e he⟩
  clear hw
  obtain ⟨r, rfl, hR⟩ := hT
  have hval : T.val r = .agg #[.int .i64 T.st, .int .i64 T.ev, .int .i64 T.sr, r] := rfl
  rw [hval]
  obtain ⟨st, hst⟩ : ∃ x, T.st = x := ⟨_, rfl⟩
  obtain ⟨ev, hev⟩ : ∃ x, T.ev = x := ⟨_, rfl⟩
  obtain ⟨sr, hsr⟩ : ∃ x, T.sr = x := ⟨_, rfl⟩
  rw [hst, hev, hsr]
  rw [hst] at hs
  rw [hev] at hwd
  obtain ⟨w0, hw0⟩ : ∃ x, w.alloc (.cells #[.int .i64 st, .int .i64 ev, .int .i64 sr, r] RTab) = x := ⟨_, rfl⟩
  have P0 := Pt.newA w RTab #[.int .i64 st, .int .i64 ev, .int .i64 sr, r]
  rw [hw0] at P0
  have F0 : Fr [] w w0 := by rw [← hw0]; exact (Fr.refl [] w).alloc _
  obtain ⟨bt, hbt⟩ : ∃ x, w.heap.size = x := ⟨_, rfl⟩
  rw [hbt] at P0
  obtain ⟨o, cap, rfl, hl⟩ := hR
  obtain ⟨o1, cap1, rfl, hd⟩ := hD
  have hst2 := hV.st
  rw [hst] at hst2
  replace hl := Lib.hid hl; replace hd := Lib.hid hd; replace P0 := Lib.hid P0; replace F0 := Lib.hid F0; replace hst := Lib.hid hst; replace hev := Lib.hid hev; replace hsr := Lib.hid hsr; replace hwd := Lib.hid hwd
  clear hval
  go_enter Try.func55, Try.ntmps55
  go_wp2_with fail
  clear hw0
  obtain ⟨n0, rfl⟩ : ∃ n : Nat, s = n := ⟨s.toNat, by omega⟩
  go_loopg [1, 8, 9] (l.length + 1) (fun k v1 v8 v14 wr => ∃ (i : Nat) (s' : Nat) (outs : List Int) (bo : Option Nat), i ≤ l.length ∧ k + i = l.length + 1 ∧ v1 = .int .i64 s' ∧ v14 = .int .i64 i ∧ (s' : Int) < st ∧ Row 1 wr v8 outs.length (ints outs) bo ∧ (∀ z, bo = some z → w0.heap.size ≤ z) ∧ outs.length ≤ i ∧ Fr [] w0 wr ∧ T.run n0 l = (outs ++ (T.run s' (l.drop i)).1, (T.run s' (l.drop i)).2))
  case atStart => exact ⟨0, n0, [], none, by omega, by omega, rfl, rfl, hs.2, Row.nil 1 _ none, by simp, by simp, Fr.refl _ _, by simp⟩
  case round =>
    obtain ⟨i, s', outs, bo, hi, hk, rfl, rfl, s1, hrow, hbo, hlo, hF, hrun⟩ := hrel
    by_cases hlt : i < l.length
    · have hltI : (i : Int) < l.length := by omega
      obtain ⟨b1, off1, rfl, hb1, hc1⟩ := hd.out i hlt
      have kt := (hF.pt P0.out (by simp)).cell
      have FF := F0.out.trans hF
      have he := hwd.out.2 _ (List.getElem_mem hlt)
      obtain ⟨m, hm⟩ : ∃ m : Nat, l[i] = m := ⟨l[i].toNat, by omega⟩
      rw [hm] at hc1 he
      have c1 := FF.cell (p := ⟨b1, off1 + i, none⟩) hb1 (by simp)
      rw [hc1] at c1
      obtain ⟨hsn, hen, hat⟩ := hV.get (s := s') (e := m) (by omega) (by rw [hst.out]; exact s1) (by omega) (by rw [hev.out]; exact he.2)
      simp only [Int.toNat_natCast] at hsn hen hat
      obtain ⟨B, off, u, rfl, hB, hcu, o2, cap2, rfl, hu⟩ := hl.out s' hsn
      obtain ⟨B2, off2, rfl, hB2, ha, hb⟩ := hu m hen
      rw [← hat] at ha hb
      have ok := hV.atOk (s := s') (e := m) (by omega) (by rw [hst.out]; exact s1) (by omega) (by rw [hev.out]; exact he.2)
      rw [hst.out] at ok
      have hdrop : l.drop i = (m : Int) :: l.drop (i + 1) := by rw [List.drop_eq_getElem_cons hlt, hm]
      rw [hdrop] at hrun
      simp only [Tb.run] at hrun
      obtain ⟨⟨x1, x2⟩, hx⟩ : ∃ x, T.at s' m = x := ⟨_, rfl⟩
      rw [hx] at ha hb ok hrun
      dsimp only at ha hb ok hrun
      have cu := FF.cell (p := ⟨B, off + s', none⟩) hB (by simp)
      rw [hcu] at cu
      have ca := FF.cell (p := ⟨B2, off2 + m * 2, none⟩) hB2 (by simp)
      rw [ha] at ca
      have cb := FF.cell (p := ⟨B2, off2 + m * 2 + 1, none⟩) hB2 (by simp)
      rw [hb] at cb
      obtain ⟨w1, hw1⟩ : ∃ x, (wr.alloc (.cells #[.int .i64 x1, .int .i64 x2] RRow)).drew = x := ⟨_, rfl⟩
      have P1 := (Pt.newA wr RRow #[.int .i64 x1, .int .i64 x2]).drew
      rw [hw1] at P1
      have F1 : Fr [] wr w1 := by rw [← hw1]; exact ((Fr.refl [] wr).alloc _).drew
      obtain ⟨bx, hbx⟩ : ∃ x, wr.heap.size = x := ⟨_, rfl⟩
      rw [hbx] at P1
      have k1 := P1.cell
      have hsnI : (s' : Int) < (T.rows.length : Int) := by omega
      have henI : (m : Int) < (T.rows[s'].length : Int) := by omega
      have q1 : b1 < bx := by have := (F0.out.trans hF).size; omega
      have q2 : B < bx := by have := (F0.out.trans hF).size; omega
      have q3 : B2 < bx := by have := (F0.out.trans hF).size; omega
      have q4 : bt < bx := by have := (hF.pt P0.out (by simp)).lt; omega
      replace hw1 := Lib.hid hw1
      clear ha hb hcu hc1 hu
      replace hl := hl; replace P1 := Lib.hid P1; replace F1 := Lib.hid F1; replace FF := Lib.hid FF; replace hF := Lib.hid hF; replace hdrop := Lib.hid hdrop; replace hm := Lib.hid hm; replace hat := Lib.hid hat; replace hx := Lib.hid hx
      have hl200 := hwd.out.1
      have ok1 := ok.2.1
      have ok0 := ok.2.2.2.2
      clear ok
      by_cases hneg : x1 < 0
      · rw [if_pos hneg] at hrun
        clear ok0
        have R : ∀ v, Row 1 wr v outs.length (ints outs) bo → RunR (T.run n0 l) w (.returned (.tuple #[v, .int .i64 s'])) w1 := fun v hv => ⟨v, by rw [hrun], by rw [hrun, List.append_nil]; exact (hv.fr F1.out (by simp)).nin, FF.out.trans F1.out⟩
        have R' := Lib.hid (R _ hrow)
        clear R
        replace hrun := Lib.hid hrun; replace hrow := Lib.hid hrow
        go_upto_region 5 with fail
        go_region
        rw [hw1.out]
        go_wp2_with fail
        go_ret2
        exact R'.out
      · rw [if_neg hneg] at hrun
        clear ok0
        obtain ⟨k', rfl⟩ : ∃ k' : Nat, x1 = k' := ⟨x1.toNat, by omega⟩
        obtain ⟨v', w2, bo', happ, hrow2, hbo2, f2⟩ := (hrow.fr F1.out (by simp)).one (by omega) x2
        have P2 := f2.pt P1.out (by
          cases bo with
          | none => simp
          | some z =>
            have := hrow.lt
            simp; omega)
        have k2 := P2.cell
        have FW : Fr [] w0 w2 := (hF.out.trans F1.out).step f2 (fun z hz => by
          right
          exact hbo z (by simpa using hz))
        have hbo' : ∀ z, bo' = some z → w0.heap.size ≤ z := fun z hz => by
          rcases hbo2 with h | ⟨z', h, h2⟩
          · exact hbo z (by rw [← h]; exact hz)
          · rw [hz] at h; cases h
            have := (hF.out.trans F1.out).size
            omega
        have hlen' : (outs ++ [x2]).length = outs.length + 1 := by simp
        replace happ := Lib.hid happ; replace hrow := Lib.hid hrow; replace hrow2 := Lib.hid hrow2; replace P2 := Lib.hid P2; replace FW := Lib.hid FW; replace hrun := Lib.hid hrun; replace hbo2 := Lib.hid hbo2; replace f2 := Lib.hid f2; replace hbo' := Lib.hid hbo'; replace hbo := Lib.hid hbo; replace hlen' := Lib.hid hlen'
        go_upto_region 5 with fail
        go_region
        rw [hw1.out]
        go_wp2_with (first | (at_builtin; refine wpList_append_run _ rfl _ _ _ rfl rfl rfl happ.out ?_))
        go_roundg (gk - 1)
        case measure => omega
        case rel => exact ⟨i + 1, k', outs ++ [x2], bo', by omega, by omega, rfl, by go_num, ok1, hrow2.out, hbo'.out, by rw [hlen'.out]; omega, FW.out, by rw [hrun.out]; simp⟩
    · have hltI : ¬ (i : Int) < l.length := by omega
      rw [List.drop_eq_nil_of_le (by omega)] at hrun
      simp only [Tb.run, List.append_nil] at hrun
      have R : ∀ v, Row 1 wr v outs.length (ints outs) bo → RunR (T.run n0 l) w (.returned (.tuple #[v, .int .i64 s'])) wr := fun v hv => ⟨v, by rw [hrun], by rw [hrun]; exact hv.nin, F0.out.trans hF⟩
      have R' := Lib.hid (R _ hrow)
      clear R
      have kt := (hF.pt P0.out (by simp)).cell
      replace hrun := Lib.hid hrun; replace hrow := Lib.hid hrow; replace hF := Lib.hid hF
      go_wp2_with fail
      go_ret2
      exact R'.out
end Go.Proofs.Ytnggimkkjdipmaa
namespace Go.Proofs.Ytnggimkkjdipmaa
open Go.RowKit
set_option linter.unusedVariables false
set_option linter.unusedSimpArgs false
set_option maxHeartbeats 8000000
set_option maxRecDepth 20000
theorem RRun_any (T : Tb) (v : Value) (s : Int) (wv : Value) (l : List Int) (w : World) (hT : TIn w v T) (hD : NIn w wv l) (hln : l.length ≤ 9223372036854775807) :
    Calls Try.prog 17 #[v, .int .i64 s, wv] w (RunR3 (T.Run s l) w) := by
  obtain ⟨r, rfl, hR⟩ := hT
  have hT' : TIn w (T.val r) T := ⟨r, rfl, hR⟩
  have hval : T.val r = .agg #[.int .i64 T.st, .int .i64 T.ev, .int .i64 T.sr, r] := rfl
  obtain ⟨w0, hw0⟩ : ∃ x, w.alloc (.cells #[.int .i64 T.st, .int .i64 T.ev, .int .i64 T.sr, r] RTab) = x := ⟨_, rfl⟩
  have P0 := Pt.newA w RTab #[.int .i64 T.st, .int .i64 T.ev, .int .i64 T.sr, r]
  rw [hw0] at P0
  have F0 : Fr [] w w0 := by rw [← hw0]; exact (Fr.refl [] w).alloc _
  obtain ⟨bt, hbt⟩ : ∃ x, w.heap.size = x := ⟨_, rfl⟩
  rw [hbt] at P0
  have V1 := fun w' (f : Fr [] w w') => rvalid_any T (T.val r) w' (hT'.fr f)
  have W1 := fun w' (f : Fr [] w w') => rword_any T.ev wv l w' (hD.fr f) hln
  have R1 := fun w' (f : Fr [] w w') h1 h2 h3 => rrun_any T (T.val r) s wv l w' (hT'.fr f) h1 (hD.fr f) h2 h3
  have C := fun w' (f : Fr [] w0 w') => (f.pt P0 (by simp)).cell
  rw [← worded_eq] at W1
  rw [hval] at V1 R1 ⊢
  have BAD : validT T = false ∨ T.has s = false ∨ T.worded l = false → T.Run s l = ([], 0, 1) := fun h => by
    unfold Tb.Run
    rcases h with h | h | h <;> simp [h]
  replace V1 := Lib.hid V1; replace W1 := Lib.hid W1; replace R1 := Lib.hid R1; replace P0 := Lib.hid P0; replace F0 := Lib.hid F0; replace C := Lib.hid C; replace BAD := Lib.hid BAD
  clear hT' hR hval
  have c0 := C.out w0 (Fr.refl _ _)
  obtain ⟨X, hX⟩ : ∃ X, T.Run s l = X := ⟨_, rfl⟩
  rw [hX]
  have hhas : T.has s = false → s < 0 ∨ (¬ s < 0 ∧ T.st ≤ s) := fun h => by
    by_cases h1 : s < 0
    · exact .inl h1
    · refine .inr ⟨h1, ?_⟩
      unfold Tb.has at h
      rw [decide_eq_true (by omega), Bool.true_and, decide_eq_false_iff_not] at h
      omega
  cases hv : validT T
  · have hb := Lib.hid (BAD.out (.inl hv))
    clear hhas
    go_enter Try.func17, Try.ntmps17
    go_wp2_with fail
    refine (V1.out _ F0.out).mono ?_
    rintro e w1 ⟨rfl, f1⟩
    replace f1 := Lib.hid f1
    replace hX := Lib.hid hX
    rw [hv]
    clear hv
    go_wp2_with fail
    go_ret3
    exact ⟨.slice none 0 0, by rw [← hX.out, hb.out]; rfl, by rw [← hX.out, hb.out]; exact NIn.nil _, F0.out.trans f1.out⟩
  · cases hh : T.has s
    · have hb := Lib.hid (BAD.out (.inr (.inl hh)))
      have hs := hhas hh
      clear hhas hh
      rcases hs with hs | ⟨hs, hs2⟩
      all_goals
        go_enter Try.func17, Try.ntmps17
        go_wp2_with fail
        refine (V1.out _ F0.out).mono ?_
        rintro e w1 ⟨rfl, f1⟩
        have c1 := C.out w1 f1
        have f01 := F0.out.trans f1
        rw [hv]
        replace f1 := Lib.hid f1; replace f01 := Lib.hid f01
        replace hX := Lib.hid hX
        go_wp2_with fail
        go_ret3
        exact ⟨.slice none 0 0, by rw [← hX.out, hb.out]; rfl, by rw [← hX.out, hb.out]; exact NIn.nil _, f01.out⟩
    · have hs : 0 ≤ s ∧ s < T.st := by simpa [Tb.has] using hh
      have hs1 : ¬ s < 0 := by omega
      have hs2 : ¬ T.st ≤ s := by omega
      clear hhas
      cases hw : T.worded l
      · have hb := Lib.hid (BAD.out (.inr (.inr hw)))
        replace hs := Lib.hid hs
        go_enter Try.func17, Try.ntmps17
        go_wp2_with fail
        refine (V1.out _ F0.out).mono ?_
        rintro e w1 ⟨rfl, f1⟩
        have c1 := C.out w1 f1
        have f01 := F0.out.trans f1
        rw [hv]
        replace f1 := Lib.hid f1; replace f01 := Lib.hid f01
        replace hX := Lib.hid hX
        go_wp2_with fail
        refine (W1.out _ f01.out).mono ?_
        rintro e w2 ⟨rfl, rfl⟩
        rw [hw]
        clear hv hh hw
        go_wp2_with fail
        go_ret3
        exact ⟨.slice none 0 0, by rw [← hX.out, hb.out]; rfl, by rw [← hX.out, hb.out]; exact NIn.nil _, f01.out⟩
      · have hg : X = ((T.run s l).1, (T.run s l).2, 0) := by rw [← hX]; unfold Tb.Run; rw [hv, hh, hw]; rfl
        have RR := Lib.hid (fun w' f => R1.out w' f ((validT_iff T).mp hv) hw hs)
        replace hs := Lib.hid hs
        go_enter Try.func17, Try.ntmps17
        go_wp2_with fail
        refine (V1.out _ F0.out).mono ?_
        rintro e w1 ⟨rfl, f1⟩
        have c1 := C.out w1 f1
        have f01 := F0.out.trans f1
        rw [hv]
        replace f1 := Lib.hid f1; replace f01 := Lib.hid f01
        replace hX := Lib.hid hX; replace hg := Lib.hid hg
        go_wp2_with fail
        refine (W1.out _ f01.out).mono ?_
        rintro e w2 ⟨rfl, rfl⟩
        rw [hw]
        go_wp2_with fail
        refine (RR.out _ f01.out).mono ?_
        rintro e w4 ⟨v4, rfl, n4, f4⟩
        replace n4 := Lib.hid n4; replace f4 := Lib.hid f4
        clear hv hh hw c1
        go_wp2_with fail
        go_ret3
        exact ⟨v4, by rw [hg.out]; rfl, by rw [hg.out]; exact n4.out, f01.out.trans f4.out⟩
/-! #### two lists are one -/
theorem ints_any (v1 v2 : Value) (l1 l2 : List Int) (w : World) (h1 : NIn w v1 l1) (h2 : NIn w v2 l2) (hln : l1.length ≤ 9223372036854775807) :
    Calls Try.prog 21 #[v1, v2] w fun e w' => e = .returned (.bool (decide (l1 = l2))) ∧ Fr [] w w' := by
  have N1 := fun w' (f : Fr [] w w') => h1.fr f
  have N2 := fun w' (f : Fr [] w w') => h2.fr f
  obtain ⟨o1, cap1, rfl, hl1⟩ := h1
  obtain ⟨o2, cap2, rfl, hl2⟩ := h2
  by_cases hlen : l1.length = l2.length
  · have hne : ((l1.length : Int) != (l2.length : Int)) = false := by simp [hlen]
    have hno : ∀ i (h : i < l1.length) (h2 : i < l2.length), l1[i] ≠ l2[i] → decide (l1 = l2) = false := fun i h h2 hd => by
      rw [decide_eq_false_iff_not]; rintro rfl; exact hd rfl
    have hyes : (∀ i (h : i < l1.length) (h2 : i < l2.length), l1[i] = l2[i]) → decide (l1 = l2) = true := fun h => by
      rw [decide_eq_true_eq]
      exact List.ext_getElem hlen fun i h1 h2 => h i h1 h2
    obtain ⟨X, hX⟩ : ∃ X, decide (l1 = l2) = X := ⟨_, rfl⟩
    rw [hX] at hyes ⊢
    simp only [hX] at hno
    clear hX
    replace hl1 := Lib.hid hl1; replace hl2 := Lib.hid hl2; replace hno := Lib.hid hno; replace hyes := Lib.hid hyes; replace N1 := Lib.hid N1; replace N2 := Lib.hid N2
    have Hlen := Lib.hid hlen
    clear hlen
    go_enter Try.func21, Try.ntmps21
    go_wp2_with fail
    go_loopg [5] (l1.length + 1) (fun k v wr => ∃ i : Nat, i ≤ l1.length ∧ k + i = l1.length + 1 ∧ v = .int .i64 i ∧ Fr [] w wr ∧ ∀ i' (h : i' < l1.length) (h2 : i' < l2.length), i' < i → l1[i'] = l2[i'])
    case atStart => exact ⟨0, by omega, by omega, rfl, Fr.refl _ _, by omega⟩
    case round =>
      obtain ⟨i, hi, hk, rfl, hF, hok⟩ := hrel
      by_cases hlt : i < l1.length
      · have hltI : (i : Int) < l1.length := by omega
        have hlt2 : i < l2.length := by have := Hlen.out; omega
        have hltI2 : (i : Int) < l2.length := by omega
        obtain ⟨b1, off1, rfl, hb1, hc1⟩ := hl1.out i hlt
        obtain ⟨b2, off2, rfl, hb2, hc2⟩ := hl2.out i hlt2
        have c1 := hF.cell (p := ⟨b1, off1 + i, none⟩) hb1 (by simp)
        rw [hc1] at c1
        have c2 := hF.cell (p := ⟨b2, off2 + i, none⟩) hb2 (by simp)
        rw [hc2] at c2
        have no1 := hno.out i hlt hlt2
        have nx : l1[i] = l2[i] → ∀ i' (h : i' < l1.length) (h2 : i' < l2.length), i' < i + 1 → l1[i'] = l2[i'] := fun he i' h' h2' hlt' => by
          rcases (by omega : i' < i ∨ i' = i) with e | rfl
          · exact hok i' h' h2' e
          · exact he
        obtain ⟨x, hx⟩ : ∃ x, l1[i] = x := ⟨_, rfl⟩
        obtain ⟨y, hy⟩ : ∃ y, l2[i] = y := ⟨_, rfl⟩
        rw [hx] at c1
        rw [hy] at c2
        rw [hx, hy] at no1 nx
        replace no1 := Lib.hid no1; replace nx := Lib.hid nx; replace hok := Lib.hid hok; replace hF := Lib.hid hF
        clear hx hy hc1 hc2
        by_cases hxy : x = y
        · subst hxy
          have nx1 := Lib.hid (nx.out rfl)
          have hne2 : (x != x) = false := by simp
          go_wp2_with fail
          go_quiet (fail)
          go_wp2_with fail
          go_roundg (gk - 1)
          case measure => omega
          case rel => exact ⟨i + 1, by omega, by omega, by go_num, hF.out.drewN _, nx1.out⟩
        · have hne2 : (x != y) = true := by simpa using hxy
          have nn := Lib.hid (no1.out hxy)
          go_wp2_with fail
          go_quiet (fail)
          go_wp2_with fail
          go_ret
          exact ⟨ret_b nn.out.symm, hF.out.drewN _⟩
      · have hltI : ¬ (i : Int) < l1.length := by omega
        have yy := Lib.hid (hyes.out fun i' h' h2' => hok i' h' h2' (by omega))
        replace hok := Lib.hid hok; replace hF := Lib.hid hF
        go_wp2_with fail
        go_ret
        exact ⟨ret_b yy.out.symm, hF.out⟩
  · have hne : ((l1.length : Int) != (l2.length : Int)) = true := by simp; omega
    have hX : decide (l1 = l2) = false := by rw [decide_eq_false_iff_not]; rintro rfl; exact hlen rfl
    rw [hX]
    clear hX hl1 hl2 N1 N2
    go_enter Try.func21, Try.ntmps21
    go_wp2_with fail
    go_ret
    exact ⟨rfl, Fr.refl _ _⟩
end Go.Proofs.Ytnggimkkjdipmaa
