import Derived.Test.YtkfkkglodjehpaaTB4
import Derived.Lib.SliceRun
namespace Go.Proofs.Ytkfkkglodjehpaa
open Go.RowKit
set_option linter.unusedVariables false
set_option linter.unusedSimpArgs false
set_option maxHeartbeats 8000000
set_option maxRecDepth 20000
def ints (l : List Int) : List Value := l.map (.int .i64)
theorem ints_app (l r : List Int) : ints (l ++ r) = ints l ++ ints r := List.map_append
theorem ints_len (l : List Int) : (ints l).length = l.length := List.length_map _
theorem uInt : Try.prog.underlying 3 = some (.int .i64) := by kernel_rfl
theorem uInts : Try.prog.underlying 36 = some (.slice 3) := by kernel_rfl
noncomputable def iInt : TypeInfo := (Try.prog.info? 3).getD default
theorem infoInt : Try.prog.info? 3 = some iInt := by kernel_rfl
noncomputable def zInt : Value := iInt.zero.getD default
/-- append whose run is known, in the walk. -/
theorem wpList_append_run {P : Program} (w : World) {ops : Array Oper} {rest : List Oper} {o : Oper} {a : Act} {Q : Exit → Act → World → Prop} (hgd : o.guard = none) (s x : Operand) (t : TypeId)
    (ho : o.op = .call { callee := .builtin .append, args := #[s, x], argTypes := #[t, t] }) {v xv v' : Value} {w' : World} (hv : a.eval s = v) (hx : a.eval x = xv)
    (hrun : (Builtin.append_ #[t, t] o.type #[v, xv]).run P w = .ok v' w') (hK : wpList P ops Q rest (a.put o.dst v') w') : wpList P ops Q (o :: rest) a w := by
  refine wpList_plain hgd fun K hK' => ?_
  unfold Oper.wp
  simp [execOp, ho, resolve, invoke, builtin, hv, hx, hrun, Result.andThen]
  exact hK' _ _ hK
/-- One more number. -/
theorem Row.one {w : World} {v : Value} {l : List Int} {bo : Option Nat} (h : Row 1 w v l.length (ints l) bo) (hn : l.length < 1000000) (x : Int) :
    ∃ v' w' bo', (Builtin.append_ #[36, 36] 36 #[v, .slice (some ⟨w.heap.size, 0, none⟩) 1 1]).run Try.prog (w.alloc (.cells #[.int .i64 x] 3)) = .ok v' w' ∧
      Row 1 w' v' (l ++ [x]).length (ints (l ++ [x])) bo' ∧ (bo' = bo ∨ ∃ z, bo' = some z ∧ w.heap.size ≤ z) ∧ Fr bo.toList w w' := by
  have f1 : Fr [] w (w.alloc (.cells #[.int .i64 x] 3)) := (Fr.refl [] w).alloc _
  have P1 := Pt.newA w 3 #[.int .i64 x]
  have h1 := h.fr f1 (by simp)
  have hsrc : Src Try.prog 1 36 (.slice (some ⟨w.heap.size, 0, none⟩) 1 1) 1 (ints [x]) (w.alloc (.cells #[.int .i64 x] 3)) := Src.ofSlice _ uInts ⟨w.heap.size, 0, none⟩ 1 1 _ rfl (fun j u hu => by rw [Addr.add_lit, P1.cell, Nat.zero_add]; exact hu) (by intro u hu; simp [ints] at hu; rcases hu with rfl; rfl)
  obtain ⟨v', w', bo', hrun, hr, hb, hf⟩ := h1.append (t := 36) (ty := 36) (e := 3) (i := iInt) (z := zInt) uInts infoInt (by kernel_rfl) (by kernel_rfl) (by omega) (by kernel_rfl) (of_decide_eq_true (by kernel_rfl)) hn hsrc (by omega) (by omega)
  refine ⟨v', w', bo', hrun, ?_, ?_, (f1.mono (by simp)).trans hf⟩
  · rw [ints_app, List.length_append]; exact hr
  · rcases hb with hb | hb
    · exact .inl hb
    · exact .inr ⟨_, hb, f1.size⟩

theorem Row.nin {w : World} {v : Value} {l : List Int} {bo : Option Nat} (h : Row 1 w v l.length (ints l) bo) : NIn w v l := by
  rcases h with ⟨_, h2, _, o, rfl⟩ | ⟨b, off, cap, hb, rfl, h3, h4, _, _, h7⟩
  · exact ⟨o, 0, by rw [h2], fun i h => by omega⟩
  · exact ⟨_, cap, rfl, fun i h => ⟨b, off, rfl, h4, by rw [h7 i (by omega)]; simp [ints, h]⟩⟩
theorem has_any (T : Tb) (v : Value) (s : Int) (w : World) (h : TIn w v T) : Calls Try.prog 15 #[v, .int .i64 s] w fun e w' => e = .returned (.bool (T.has s)) ∧ Fr [] w w' := by
  obtain ⟨r, rfl, _⟩ := h
  obtain ⟨st, ev, sr, rows⟩ := T
  dsimp only [Tb.val]
  have F0 : ∀ o, Fr [] w (w.alloc o) := fun o => (Fr.refl [] w).alloc o
  rcases (by omega : s < 0 ∨ (0 ≤ s ∧ s < st) ∨ (0 ≤ s ∧ ¬ s < st)) with h | ⟨h, h2⟩ | ⟨h, h2⟩
  · have hr : Tb.has ⟨st, ev, sr, rows⟩ s = false := by unfold Tb.has; rw [decide_eq_false (by omega)]; rfl
    rw [hr]
    clear hr
    go_enter Try.func15, Try.ntmps15
    go_wp2_with fail
    go_ret
    exact ⟨rfl, F0 _⟩
  · have hr : Tb.has ⟨st, ev, sr, rows⟩ s = true := by unfold Tb.has; rw [decide_eq_true h, decide_eq_true h2]; rfl
    rw [hr]
    clear hr
    go_enter Try.func15, Try.ntmps15
    go_wp2_with fail
    go_ret
    exact ⟨rfl, F0 _⟩
  · have hr : Tb.has ⟨st, ev, sr, rows⟩ s = false := by unfold Tb.has; rw [decide_eq_true h, decide_eq_false h2]; rfl
    rw [hr]
    clear hr
    go_enter Try.func15, Try.ntmps15
    go_wp2_with fail
    go_ret
    exact ⟨rfl, F0 _⟩
/-- What no event is. -/
def offE (ev e : Int) : Bool := decide (e < 0) || decide (ev ≤ e)
theorem offE_any (b : Nat) (ev e : Int) (w : World) (hc : w.cell? ⟨b, 1, none⟩ = some (.int .i64 ev)) :
    Calls Try.prog 23 #[.int .i64 e, .pointer (some ⟨b, 0, none⟩)] w fun r w' => r = .returned (.bool (offE ev e)) ∧ w = w' := by
  unfold offE
  by_cases h : e < 0
  · rw [decide_eq_true h, Bool.true_or]
    go_enter Try.func23, Try.ntmps23
    go_wp2_with fail
    go_ret
    exact ⟨rfl, rfl⟩
  · rw [decide_eq_false h, Bool.false_or]
    go_enter Try.func23, Try.ntmps23
    go_wp2_with fail
    go_ret
    exact ⟨rfl, rfl⟩
theorem indexW_any (v : Value) (l : List Int) (ev : Int) (w : World) (b : Nat) (hD : NIn w v l) (hn : l.length < 1000000) (hc : w.cell? ⟨b, 1, none⟩ = some (.int .i64 ev)) :
    Calls Try.prog 29 #[v, .func (.func 23) #[] #[.pointer (some ⟨b, 0, none⟩)]] w fun e w' => (∃ k : Int, e = .returned (.int .i64 k) ∧ decide (0 ≤ k) = l.any (offE ev)) ∧ w = w' := by
  obtain ⟨o, cap, rfl, hl⟩ := hD
  have hp := fun n => offE_any b ev n w hc
  replace hl := Lib.hid hl; replace hp := Lib.hid hp
  clear hc
  go_enter Try.func29, Try.ntmps29
  go_wp2_with fail
  go_loop [8] (fun v => ∃ i : Nat, i ≤ l.length ∧ v = .int .i64 i ∧ (l.take i).any (offE ev) = false) (fun v => (l.length - intOf v).toNat)
  case atStart => exact ⟨0, by omega, rfl, by simp⟩
  case round =>
    obtain ⟨i, hi, rfl, hni⟩ := hrel
    by_cases hlt : (i : Int) < l.length
    · have hil : i < l.length := by omega
      obtain ⟨b, off, rfl, hb, hc⟩ := hl.out i hil
      have hcall := Lib.hid (hp.out l[i])
      have hnn : offE ev l[i] = false → (l.take (i + 1)).any (offE ev) = false := fun h => by
        rw [List.take_succ_eq_append_getElem hil, List.any_append, hni]
        simp [h]
      have hyes : offE ev l[i] = true → l.any (offE ev) = true := fun h => List.any_eq_true.mpr ⟨_, List.getElem_mem hil, h⟩
      replace hni := Lib.hid hni; replace hnn := Lib.hid hnn; replace hyes := Lib.hid hyes
      obtain ⟨y, hy⟩ : ∃ y, l[i] = y := ⟨_, rfl⟩
      rw [hy] at hc hcall hnn hyes
      obtain ⟨py, hpy⟩ : ∃ t, offE ev y = t := ⟨_, rfl⟩
      rw [hpy] at hcall hnn hyes
      clear hy hpy
      go_wp2_with fail
      refine hcall.out.mono ?_
      rintro e w1 ⟨rfl, rfl⟩
      cases py
      · go_wp2
        go_round
        case rel => exact ⟨i + 1, by omega, by go_num, hnn.out trivial⟩
        case measure => simp [intOf]; omega
      · go_wp2
        go_ret
        exact ⟨⟨i, rfl, by rw [hyes.out trivial]; simp⟩, rfl⟩
    · have hid : i = l.length := by omega
      subst hid
      rw [List.take_length] at hni
      replace hni := Lib.hid hni
      go_wp2
      go_ret
      exact ⟨⟨-1, rfl, by rw [hni.out]; rfl⟩, rfl⟩
theorem containsW_any (v : Value) (l : List Int) (ev : Int) (w : World) (b : Nat) (hD : NIn w v l) (hn : l.length < 1000000) (hc : w.cell? ⟨b, 1, none⟩ = some (.int .i64 ev)) :
    Calls Try.prog 22 #[v, .func (.func 23) #[] #[.pointer (some ⟨b, 0, none⟩)]] w fun e w' => e = .returned (.bool (l.any (offE ev))) ∧ w = w' := by
  have H := Lib.hid (indexW_any v l ev w b hD hn hc)
  clear hD hc
  go_enter Try.func22, Try.ntmps22
  go_wp2_with fail
  refine H.out.mono ?_
  rintro e w1 ⟨⟨k, rfl, hk⟩, rfl⟩
  replace hk := Lib.hid hk
  go_wp2_with fail
  go_ret
  exact ⟨ret_b hk.out, rfl⟩
theorem worded_eq (T : Tb) (l : List Int) : T.worded l = (decide (l.length ≤ 200) && !l.any (offE T.ev)) := by
  unfold Tb.worded
  congr 1
  rw [Bool.eq_iff_iff]
  simp only [List.all_eq_true, Bool.not_eq_true', List.any_eq_false, offE, Bool.or_eq_true, decide_eq_true_eq, Bool.and_eq_true]
  exact ⟨fun h x hx => by have := h x hx; omega, fun h x hx => by have := h x hx; omega⟩
end Go.Proofs.Ytkfkkglodjehpaa
