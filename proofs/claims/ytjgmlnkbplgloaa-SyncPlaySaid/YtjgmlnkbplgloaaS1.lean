import Derived.Test.YtjgmlnkbplgloaaRow
import Derived.Test.YtjgmlnkbplgloaaProg
import Derived.Deep.RegionHeld3
import Derived.WalkSpells
import Derived.Laws.Cover3
import Derived.WalkLawsBesides
import Derived.Deep.RegionLaw
import Derived.Deep.QuietTactic
import Derived.BigQuiet
namespace Go.Proofs.Ytjgmlnkbplgloaa
open Go.RowKit
set_option linter.unusedVariables false
set_option linter.unusedSimpArgs false
set_option maxHeartbeats 4000000
set_option maxRecDepth 20000
variable {X : List Nat}
/-! ### Events, lists of numbers -/
structure Ev where
  way : Int
  kind : Int
  a : Int
  b : Int
  c : Int
  data : ByteArray
def Ev.cells (e : Ev) : List Value := [.int .i64 e.way, .int .i64 e.kind, .int .i64 e.a, .int .i64 e.b, .int .i64 e.c, .string e.data]
def Ev.val (e : Ev) : Value := .agg #[.int .i64 e.way, .int .i64 e.kind, .int .i64 e.a, .int .i64 e.b, .int .i64 e.c, .string e.data]
abbrev TEv : TypeId := 33
/-- What is handed back: nothing, or one event in new memory. -/
def EvRes (B0 : Nat) (w : World) (v : Value) (l : List Ev) : Prop := (v = .slice none 0 0 ∧ l = []) ∨ ∃ B e, v = .slice (some ⟨B, 0, none⟩) 1 1 ∧ l = [e] ∧ Pt w B TEv e.cells ∧ B0 ≤ B
def ints (l : List Int) : List Value := l.map (.int .i64)
theorem ints_app (l r : List Int) : ints (l ++ r) = ints l ++ ints r := List.map_append
theorem ints_len (l : List Int) : (ints l).length = l.length := List.length_map _
theorem uInt : Try.prog.underlying 3 = some (.int .i64) := by kernel_rfl
theorem uInts : Try.prog.underlying 22 = some (.slice 3) := by kernel_rfl
noncomputable def iInt : TypeInfo := (Try.prog.info? 3).getD default
theorem infoInt : Try.prog.info? 3 = some iInt := by kernel_rfl
noncomputable def zInt : Value := iInt.zero.getD default
/-- Blocks that lists must not lie in: x is one of them, all of them are there. -/
def Av (X : List Nat) (w : World) (x : Nat) : Prop := x ∈ X ∧ ∀ y ∈ X, y < w.heap.size
theorem Av.fr {w w' : World} {x : Nat} (h : Av X w x) {ex : List Nat} (hf : Fr ex w w') : Av X w' x := ⟨h.1, fun y hy => Nat.lt_of_lt_of_le (h.2 y hy) hf.size⟩
/-- A list of numbers that is only read. -/
def IR0 (w : World) (v : Value) (l : List Int) : Prop := ∃ (o : Option Addr) (cap : Nat), v = .slice o l.length cap ∧ l.length ≤ cap ∧
  ∀ (i : Nat) (h : i < l.length), ∃ b off, o = some ⟨b, off, none⟩ ∧ b < w.heap.size ∧ True ∧ w.cell? ⟨b, off + i, none⟩ = some (.int .i64 l[i])
/-- A list of numbers that is only read; none of it lies in a block of X, of which x is one. -/
def IR (X : List Nat) (w : World) (v : Value) (l : List Int) (x : Nat) : Prop := Av X w x ∧ ∃ (o : Option Addr) (cap : Nat), v = .slice o l.length cap ∧ l.length ≤ cap ∧
  ∀ (i : Nat) (h : i < l.length), ∃ b off, o = some ⟨b, off, none⟩ ∧ b < w.heap.size ∧ b ∉ X ∧ w.cell? ⟨b, off + i, none⟩ = some (.int .i64 l[i])
theorem IR.fr {w w' : World} {v : Value} {l : List Int} {x : Nat} (h : IR X w v l x) {ex : List Nat} (hf : Fr ex w w') (hx : ∀ b ∈ ex, b = x) : IR X w' v l x := by
  obtain ⟨h0, o, cap, h1, h2, h3⟩ := h
  refine ⟨h0.fr hf, o, cap, h1, h2, fun i hi => ?_⟩
  obtain ⟨b, off, e, hb, hbx, hc⟩ := h3 i hi
  exact ⟨b, off, e, Nat.lt_of_lt_of_le hb hf.size, hbx, by rw [hf.cell (p := ⟨b, off + i, none⟩) hb (fun hm => hbx (by rw [hx b hm]; exact h0.1))]; exact hc⟩
theorem IR.fr2 {w w' : World} {v : Value} {l : List Int} {x : Nat} (h : IR X w v l x) {ex : List Nat} (hf : Fr ex w w') (hx : ∀ b ∈ ex, b ∈ X) : IR X w' v l x := by
  obtain ⟨h0, o, cap, h1, h2, h3⟩ := h
  refine ⟨h0.fr hf, o, cap, h1, h2, fun i hi => ?_⟩
  obtain ⟨b, off, e, hb, hbx, hc⟩ := h3 i hi
  exact ⟨b, off, e, Nat.lt_of_lt_of_le hb hf.size, hbx, by rw [hf.cell (p := ⟨b, off + i, none⟩) hb (fun hm => hbx (hx b hm))]; exact hc⟩
/-- Another set of blocks: those that are new in it were not there when the list was. -/
theorem IR.chg {Y : List Nat} {w w' : World} {v : Value} {l : List Int} {x : Nat} (h : IR X w v l x) (hf : Fr [] w w') (ha : Av Y w' x) (hY : ∀ y ∈ Y, y ∈ X ∨ w.heap.size ≤ y) : IR Y w' v l x := by
  obtain ⟨h0, o, cap, h1, h2, h3⟩ := h
  refine ⟨ha, o, cap, h1, h2, fun i hi => ?_⟩
  obtain ⟨b, off, e, hb, hbx, hc⟩ := h3 i hi
  exact ⟨b, off, e, Nat.lt_of_lt_of_le hb hf.size, fun hm => by rcases hY b hm with h | h; exact hbx h; omega, by rw [hf.cell (p := ⟨b, off + i, none⟩) hb (by simp)]; exact hc⟩
theorem IR.low {w : World} {v : Value} {l : List Int} {x : Nat} (h : IR X w v l x) : IR0 w v l := by
  obtain ⟨h0, o, cap, h1, h2, h3⟩ := h
  refine ⟨o, cap, h1, h2, fun i hi => ?_⟩
  obtain ⟨b, off, e, hb, hbx, hc⟩ := h3 i hi
  exact ⟨b, off, e, hb, trivial, hc⟩
theorem Row.ir0 {w : World} {v : Value} {l : List Int} {bo : Option Nat} (h : Row 1 w v l.length (ints l) bo) : IR0 w v l := by
  rcases h with ⟨_, h2, _, o, rfl⟩ | ⟨b, off, cap, hb, rfl, h3, h4, _, _, h7⟩
  · exact ⟨o, 0, by rw [h2], by omega, fun i h => by omega⟩
  · exact ⟨_, cap, rfl, h3, fun i h => ⟨b, off, rfl, h4, trivial, by rw [h7 i (by omega)]; simp [ints, h]⟩⟩
theorem IR.nil (w : World) (x : Nat) (hX : Av X w x) : IR X w (.slice none 0 0) [] x := ⟨hX, none, 0, rfl, Nat.le_refl _, by simp⟩
theorem Row.ir {w : World} {v : Value} {l : List Int} {bo : Option Nat} {x : Nat} (h : Row 1 w v l.length (ints l) bo) (hX : Av X w x) (hx : ∀ z, bo = some z → z ∉ X) : IR X w v l x := by
  rcases h with ⟨_, h2, _, o, rfl⟩ | ⟨b, off, cap, hb, rfl, h3, h4, _, _, h7⟩
  · exact ⟨hX, o, 0, by rw [h2], by omega, fun i h => by omega⟩
  · exact ⟨hX, _, cap, rfl, h3, fun i h => ⟨b, off, rfl, h4, hx b hb, by rw [h7 i (by omega)]; simp [ints, h]⟩⟩
/-- append whose run is known, in the walk. -/
theorem wpList_append_run {P : Program} (w : World) {ops : Array Oper} {rest : List Oper} {o : Oper} {a : Act} {Q : Exit → Act → World → Prop} (hgd : o.guard = none) (s x : Operand) (t : TypeId)
    (ho : o.op = .call { callee := .builtin .append, args := #[s, x], argTypes := #[t, t] }) {v xv v' : Value} {w' : World} (hv : a.eval s = v) (hx : a.eval x = xv)
    (hrun : (Builtin.append_ #[t, t] o.type #[v, xv]).run P w = .ok v' w') (hK : wpList P ops Q rest (a.put o.dst v') w') : wpList P ops Q (o :: rest) a w := by
  refine wpList_plain hgd fun K hK' => ?_
  unfold Oper.wp
  simp [execOp, ho, resolve, invoke, builtin, hv, hx, hrun, Result.andThen]
  exact hK' _ _ hK
/-- One more number. -/
theorem Row.one {w : World} {v : Value} {l : List Int} {bo : Option Nat} (h : Row 1 w v l.length (ints l) bo) (hn : l.length < 1000000) (x : Int) :
    ∃ v' w' bo', (Builtin.append_ #[22, 22] 22 #[v, .slice (some ⟨w.heap.size, 0, none⟩) 1 1]).run Try.prog (w.alloc (.cells #[.int .i64 x] 3)) = .ok v' w' ∧
      Row 1 w' v' (l ++ [x]).length (ints (l ++ [x])) bo' ∧ (bo' = bo ∨ ∃ z, bo' = some z ∧ w.heap.size ≤ z) ∧ Fr bo.toList w w' := by
  have f1 : Fr [] w (w.alloc (.cells #[.int .i64 x] 3)) := (Fr.refl [] w).alloc _
  have P1 := Pt.newA w 3 #[.int .i64 x]
  have h1 := h.fr f1 (by simp)
  have hsrc : Src Try.prog 1 22 (.slice (some ⟨w.heap.size, 0, none⟩) 1 1) 1 (ints [x]) (w.alloc (.cells #[.int .i64 x] 3)) := Src.ofSlice _ uInts ⟨w.heap.size, 0, none⟩ 1 1 _ rfl (fun j u hu => by rw [Addr.add_lit, P1.cell, Nat.zero_add]; exact hu) (by intro u hu; simp [ints] at hu; rcases hu with rfl; rfl)
  obtain ⟨v', w', bo', hrun, hr, hb, hf⟩ := h1.append (t := 22) (ty := 22) (e := 3) (i := iInt) (z := zInt) uInts infoInt (by kernel_rfl) (by kernel_rfl) (by omega) (by kernel_rfl) (of_decide_eq_true (by kernel_rfl)) hn hsrc (by omega) (by omega)
  refine ⟨v', w', bo', hrun, ?_, ?_, (f1.mono (by simp)).trans hf⟩
  · rw [ints_app, List.length_append]; exact hr
  · rcases hb with hb | hb
    · exact .inl hb
    · exact .inr ⟨_, hb, f1.size⟩
/-- append([]int{}, l..). -/
theorem copy_run (a0 : Addr) (cap : Nat) (ds : List Int) (w : World) (x : Nat) (hD : IR X w (.slice (some a0) ds.length cap) ds x) (hn : ds.length < 1000000) :
    ∃ v' w' bo, (Builtin.append_ #[22, 22] 22 #[.slice (some ⟨w.heap.size, 0, none⟩) 0 0, .slice (some a0) ds.length cap]).run Try.prog (w.alloc (.cells #[] 3)) = .ok v' w' ∧
      Row 1 w' v' ds.length (ints ds) bo ∧ (∀ z, bo = some z → w.heap.size ≤ z) ∧ Fr [] w w' := by
  obtain ⟨_, o, cap', hv, _, hl⟩ := hD
  cases hv
  have f1 : Fr [] w (w.alloc (.cells #[] 3)) := (Fr.refl [] w).alloc _
  by_cases h0 : ds = []
  · subst h0
    have hsrc : Src Try.prog iInt.size 22 (.slice (some a0) ([] : List Int).length cap) 0 [] (w.alloc (.cells #[] 3)) := by
      refine Src.mk (.inl ⟨_, uInts⟩) (fun w' => by simp [Builtin.lenOf, go_sem]) ?_ ?_ (by simp) (by simp)
      · simp [Builtin.firstCells, go_sem]
      · simp [Builtin.firstCells, go_sem]
    exact ⟨_, _, none, run_append_nothing _ _ _ _ _ iInt uInts infoInt _ 0 0 (Nat.le_refl _) _ hsrc, Row.nil 1 _ _, by simp, f1⟩
  · have hpos : 0 < ds.length := by cases ds with | nil => exact absurd rfl h0 | cons _ _ => simp
    obtain ⟨b, off, e0, hb, _, _⟩ := hl 0 hpos
    cases e0
    have hc : ∀ i (h : i < ds.length), w.cell? ⟨b, off + i, none⟩ = some (.int .i64 ds[i]) := fun i h => by
      obtain ⟨b', off', e, _, _, hc⟩ := hl i h
      cases e
      exact hc
    have hsrc : Src Try.prog 1 22 (.slice (some ⟨b, off, none⟩) ds.length cap) ds.length (ints ds) (w.alloc (.cells #[] 3)) := Src.ofSlice _ uInts ⟨b, off, none⟩ ds.length cap _ (by simp [ints]) (fun j u hu => by
        have hj : j < ds.length := by have := (List.getElem?_eq_some_iff.1 hu).1; simpa [ints] using this
        rw [Addr.add_lit, f1.cell (p := ⟨b, off + j, none⟩) hb (by simp), hc j hj]
        simpa [ints, hj] using hu) (by intro u hu; simp only [ints, List.mem_map] at hu; obtain ⟨a, _, rfl⟩ := hu; rfl)
    obtain ⟨v', w', bo', hrun, hr, hb', hf⟩ := (Row.nil 1 (w.alloc (.cells #[] 3)) (some ⟨w.heap.size, 0, none⟩)).append (t := 22) (ty := 22) (e := 3) (i := iInt) (z := zInt) uInts infoInt (by kernel_rfl) (by kernel_rfl) (by omega) (by kernel_rfl) (of_decide_eq_true (by kernel_rfl)) (by omega) hsrc (by omega) hpos
    refine ⟨v', w', bo', hrun, by simpa using hr, fun z hz => ?_, f1.trans (by simpa using hf)⟩
    rcases hb' with h | h
    · rw [h] at hz; cases hz
    · rw [h] at hz; cases hz; exact f1.size
theorem eq_nil (o : Option Addr) (l c : Nat) (w : World) : (binOp .eql 22 (.slice o l c) (.slice none 0 0)).run Try.prog w = .ok (.bool o.isNone) w := by
  simp [binOp, run_equal_slice_nil w _ _ o l c uInts]
theorem clone_any (v : Value) (ds : List Int) (w : World) (x : Nat) (hD : IR X w v ds x) (hn : ds.length < 1000000) :
    Calls Try.prog 27 #[v] w fun e w' => ∃ v' bo, e = .returned v' ∧ Row 1 w' v' ds.length (ints ds) bo ∧ (∀ z, bo = some z → w.heap.size ≤ z) ∧ Fr [] w w' := by
  have hD' := hD
  obtain ⟨_, o, cap, rfl, _, hl⟩ := hD'
  cases o with
  | none =>
    have h0 : ds = [] := by
      cases ds with
      | nil => rfl
      | cons a r => obtain ⟨_, _, e, _⟩ := hl 0 (by simp); cases e
    subst h0
    clear hD hl
    go_enter Try.func27, Try.ntmps27
    go_wp2_with fail
    rw [eq_nil]
    go_wp2_with fail
    go_ret
    exact ⟨_, none, rfl, Row.nil 1 _ none, by simp, Fr.refl _ _⟩
  | some a0 =>
    obtain ⟨v', w', bo, hrun, hr, hb, hf⟩ := copy_run a0 cap ds w x hD hn
    replace hrun := Lib.hid hrun
    clear hD hl
    go_enter Try.func27, Try.ntmps27
    go_wp2_with fail
    rw [eq_nil]
    go_wp2_with (first | (at_builtin; refine wpList_append_run _ rfl _ _ _ rfl rfl rfl hrun.out ?_))
    go_ret
    exact ⟨v', bo, rfl, hr, hb, hf⟩
theorem index_any (v : Value) (ds : List Int) (n : Int) (w : World) (x : Nat) (hD : IR X w v ds x) (hn : ds.length < 1000000) :
    Calls Try.prog 55 #[v, .int .i64 n] w fun e w' => (∃ k : Int, e = .returned (.int .i64 k) ∧ (decide (0 ≤ k) = decide (n ∈ ds))) ∧ w = w' := by
  obtain ⟨_, o, cap, rfl, _, hl⟩ := hD
  replace hl := Lib.hid hl
  go_enter Try.func55, Try.ntmps55
  go_wp2_with fail
  go_loop [8] (fun v => ∃ i : Nat, i ≤ ds.length ∧ v = .int .i64 i ∧ n ∉ ds.take i) (fun v => (ds.length - intOf v).toNat)
  case atStart => exact ⟨0, by omega, rfl, by simp⟩
  case round =>
    obtain ⟨i, hi, rfl, hni⟩ := hrel
    by_cases hlt : (i : Int) < ds.length
    · have hil : i < ds.length := by omega
      obtain ⟨b, off, rfl, hb, _, hc⟩ := hl.out i hil
      obtain ⟨y, hy⟩ : ∃ y, ds[i] = y := ⟨_, rfl⟩
      rw [hy] at hc
      by_cases hny : n = y
      · subst hny
        have hmem : n ∈ ds := by rw [← hy]; exact List.getElem_mem hil
        clear hni hy
        go_wp2
        go_ret
        exact ⟨⟨i, rfl, by simp [hmem]⟩, rfl⟩
      · have hnn : n ∉ ds.take (i + 1) := by
          rw [List.take_succ_eq_append_getElem hil, hy]
          simp [hni, hny]
        clear hni hy
        go_wp2
        go_round
        case rel => exact ⟨i + 1, by omega, by go_num, hnn⟩
        case measure => simp [intOf]; omega
    · have hid : i = ds.length := by omega
      subst hid
      rw [List.take_length] at hni
      go_wp2
      go_ret
      exact ⟨⟨-1, rfl, by simp [hni]⟩, rfl⟩
theorem contains_any (v : Value) (ds : List Int) (n : Int) (w : World) (x : Nat) (hD : IR X w v ds x) (hn : ds.length < 1000000) :
    Calls Try.prog 40 #[v, .int .i64 n] w fun e w' => e = .returned (.bool (decide (n ∈ ds))) ∧ w = w' := by
  have H := Lib.hid (index_any v ds n w x hD hn)
  clear hD
  go_enter Try.func40, Try.ntmps40
  go_wp2_with fail
  refine H.out.mono ?_
  rintro e w1 ⟨⟨k, rfl, hk⟩, rfl⟩
  go_wp2_with fail
  go_ret
  exact ⟨by rw [← hk]; rfl, rfl⟩
end Go.Proofs.Ytjgmlnkbplgloaa
