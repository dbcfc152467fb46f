import Derived.Test.YtehmfnpiidcbpaaGP3
import Derived.Test.YtehmfnpiidcbpaaGN2
namespace Go.Proofs.Ytehmfnpiidcbpaa
open Go.RowKit
set_option linter.unusedVariables false
set_option linter.unusedSimpArgs false
set_option maxHeartbeats 16000000
set_option maxRecDepth 100000
/-! ### Rows of numbers -/
def IIn (w : World) (v : Value) (l : List Int) : Prop := ∃ o cap, v = .slice o l.length cap ∧ ∀ i (h : i < l.length), ∃ b off, o = some ⟨b, off, none⟩ ∧ b < w.heap.size ∧ w.cell? ⟨b, off + i, none⟩ = some (.int .i64 l[i])
theorem IIn.fr {w w' : World} {v : Value} {l : List Int} (h : IIn w v l) (hf : Fr [] w w') : IIn w' v l := by
  obtain ⟨o, cap, h1, h2⟩ := h
  refine ⟨o, cap, h1, fun i hi => ?_⟩
  obtain ⟨b, off, e, hb, hc⟩ := h2 i hi
  exact ⟨b, off, e, Nat.lt_of_lt_of_le hb hf.size, by rw [hf.cell (p := ⟨b, off + i, none⟩) hb (by simp)]; exact hc⟩
def ints (l : List Int) : List Value := l.map (.int .i64)
theorem ints_app (l r : List Int) : ints (l ++ r) = ints l ++ ints r := List.map_append
theorem ints_len (l : List Int) : (ints l).length = l.length := List.length_map _
theorem uIntsM : Try.prog.underlying 79 = some (.slice 3) := by kernel_rfl
noncomputable def iIntM : TypeInfo := (Try.prog.info? 3).getD default
theorem infoIntM : Try.prog.info? 3 = some iIntM := by kernel_rfl
noncomputable def zIntM : Value := iIntM.zero.getD (.int .i64 0)
theorem Row.one {w : World} {v : Value} {l : List Int} {bo : Option Nat} (h : Row 1 w v l.length (ints l) bo) (hn : l.length < 1000000) (x : Int) :
    ∃ v' w' bo', (Builtin.append_ #[79, 79] 79 #[v, .slice (some ⟨w.heap.size, 0, none⟩) 1 1]).run Try.prog (w.alloc (.cells #[.int .i64 x] 3)) = .ok v' w' ∧
      Row 1 w' v' (l ++ [x]).length (ints (l ++ [x])) bo' ∧ (bo' = bo ∨ ∃ z, bo' = some z ∧ w.heap.size ≤ z) ∧ Fr bo.toList w w' := by
  have f1 : Fr [] w (w.alloc (.cells #[.int .i64 x] 3)) := (Fr.refl [] w).alloc _
  have P1 := Pt.newA w 3 #[.int .i64 x]
  have h1 := h.fr f1 (by simp)
  have hsrc : Src Try.prog 1 79 (.slice (some ⟨w.heap.size, 0, none⟩) 1 1) 1 (ints [x]) (w.alloc (.cells #[.int .i64 x] 3)) := Src.ofSlice _ uIntsM ⟨w.heap.size, 0, none⟩ 1 1 _ rfl (fun j u hu => by rw [Addr.add_lit, P1.cell, Nat.zero_add]; exact hu) (by intro u hu; simp [ints] at hu; rcases hu with rfl; rfl)
  obtain ⟨v', w', bo', hrun, hr, hb, hf⟩ := h1.append (t := 79) (ty := 79) (e := 3) (i := iIntM) (z := zIntM) uIntsM infoIntM (by kernel_rfl) (by kernel_rfl) (by omega) (by kernel_rfl) (of_decide_eq_true (by kernel_rfl)) hn hsrc (by omega) (by omega)
  refine ⟨v', w', bo', hrun, ?_, ?_, (f1.mono (by simp)).trans hf⟩
  · rw [ints_app, List.length_append]; exact hr
  · rcases hb with hb | hb
    · exact .inl hb
    · exact .inr ⟨_, hb, f1.size⟩
theorem Row.iin {w : World} {v : Value} {l : List Int} {bo : Option Nat} (h : Row 1 w v l.length (ints l) bo) : IIn w v l := by
  rcases h with ⟨_, h2, _, o, rfl⟩ | ⟨b, off, cap, hb, rfl, h3, h4, _, _, h7⟩
  · exact ⟨o, 0, by rw [h2], fun i h => by omega⟩
  · exact ⟨_, cap, rfl, fun i h => ⟨b, off, rfl, h4, by rw [h7 i (by omega)]; simp [ints, h]⟩⟩
theorem IIn.nil (w : World) : IIn w (.slice none 0 0) [] := ⟨none, 0, rfl, fun i h => by simp at h⟩
/-- A new row of numbers is handed back. -/
def RowI (w : World) (L : List Int) (e : Ending) (w' : World) : Prop := ∃ v, e = .returned v ∧ IIn w' v L ∧ Fr [] w w'
/-! ### put -/
structure PutI (w : World) (x : Int) (l : List Int) (d : Bool) (i : Nat) (out : List Int) (wr : World) (v : Value) (bo : Option Nat) : Prop where
  row : Row 1 wr v out.length (ints out) bo
  new : ∀ z, bo = some z → w.heap.size ≤ z
  fr : Fr [] w wr
  len : out.length ≤ i + d.toNat
  eq : out ++ putI x d (l.drop i) = putF x l
theorem PutI.app {w : World} {out : List Int} {wr : World} {v : Value} {bo : Option Nat} (hr : Row 1 wr v out.length (ints out) bo) (hnw : ∀ z, bo = some z → w.heap.size ≤ z) (hf : Fr [] w wr) (hn : out.length < 1000000) (y : Int) :
    ∃ v' w' bo', (Builtin.append_ #[79, 79] 79 #[v, .slice (some ⟨wr.heap.size, 0, none⟩) 1 1]).run Try.prog (wr.alloc (.cells #[.int .i64 y] 3)) = .ok v' w' ∧
      Row 1 w' v' (out ++ [y]).length (ints (out ++ [y])) bo' ∧ (∀ z, bo' = some z → w.heap.size ≤ z) ∧ Fr [] w w' := by
  obtain ⟨v', w', bo', h1, h2, h3, h4⟩ := hr.one hn y
  refine ⟨v', w', bo', h1, h2, fun z hz => ?_, hf.step h4 (fun z hz => .inr (hnw z (by simpa using hz)))⟩
  rcases h3 with e | ⟨z', e, h5⟩
  · exact hnw z (by rw [← e]; exact hz)
  · rw [hz] at e; cases e; have := hf.size; omega
theorem put_any (v : Value) (l : List Int) (x : Int) (w : World) (h : IIn w v l) (hn : l.length ≤ 100000) :
    Calls Try.prog 60 #[v, .int .i64 x] w (RowI w (putF x l)) := by
  obtain ⟨o, cap, rfl, hl⟩ := h
  obtain ⟨N, hN⟩ : ∃ N, l.length = N := ⟨_, rfl⟩
  have I0 : PutI w x l false 0 [] w (.slice none 0 0) none := ⟨Row.nil _ _ _, by simp, Fr.refl _ _, by simp, rfl⟩
  rw [hN] at hn ⊢
  replace hl := Lib.hid hl; replace hN := Lib.hid hN; replace I0 := Lib.hid I0
  go_enter Try.func60, Try.ntmps60
  go_wp2_with fail
  go_loopg [5, 6, 7] (N + 1) (fun k v5 v6 v7 wr => ∃ (i : Nat) (d : Bool) (out : List Int) (bo : Option Nat), i ≤ N ∧ k + i = N + 1 ∧ v7 = .int .i64 i ∧ v6 = .bool d ∧ PutI w x l d i out wr v5 bo)
  case atStart => exact ⟨0, false, [], none, by omega, by omega, rfl, rfl, I0.out⟩
  case round =>
    obtain ⟨i, d, out, bo, hi, hk, rfl, rfl, hI⟩ := hrel
    obtain ⟨wi, rfl⟩ : ∃ y : World, y = wr := ⟨_, rfl⟩
    obtain ⟨hr, hnw, hF, hol, heq⟩ := hI
    obtain ⟨o5, c5, rfl⟩ := hr.len
    obtain ⟨n5, hn5⟩ : ∃ y, out.length = y := ⟨_, rfl⟩
    have hol2 : out.length ≤ i + 1 := by cases d <;> simp at hol <;> omega
    by_cases hlt : i < N
    · have hltI : (i : Int) < N := by omega
      have hil : i < l.length := by have := hN.out; omega
      obtain ⟨B, off, rfl, hB, a1⟩ := hl.out i hil
      have x1 := hF.cell (p := ⟨B, off + i, none⟩) hB (by simp)
      rw [a1] at x1
      obtain ⟨y, hy⟩ : ∃ y, l[i] = y := ⟨_, rfl⟩
      rw [hy] at x1 a1
      rw [List.drop_eq_getElem_cons hil, hy] at heq
      have x2 := Lib.hid a1
      clear a1
      -- one more, then the round's end
      have fin : ∀ (d' : Bool) (out' : List Int), out' ++ [y] ++ putI x d' (l.drop (i + 1)) = putF x l → (out' ++ [y]).length ≤ i + 1 + d'.toNat → ∀ v' w' bo', Row 1 w' v' (out' ++ [y]).length (ints (out' ++ [y])) bo' → (∀ z, bo' = some z → w.heap.size ≤ z) → Fr [] w w' → PutI w x l d' (i + 1) (out' ++ [y]) w' v' bo' := fun d' out' h1 h2 v' w' bo' h3 h4 h5 => ⟨h3, h4, h5, h2, h1⟩
      rcases (by cases d <;> simp <;> omega : d = true ∨ (d = false ∧ x < y) ∨ (d = false ∧ x = y) ∨ (d = false ∧ y < x)) with rfl | ⟨rfl, hc⟩ | ⟨rfl, rfl⟩ | ⟨rfl, hc⟩
      · obtain ⟨v', w9, b9, happ, hr9, hb9, G9⟩ := PutI.app hr hnw hF (by omega) y
        have NX := fin true out (by rw [← heq]; simp [putI]) (by simp at hol ⊢; omega) _ _ _ hr9 hb9 G9
        rw [hn5] at happ ⊢
        replace hr := Lib.hid hr; replace hnw := Lib.hid hnw; replace hF := Lib.hid hF; replace hol := Lib.hid hol; replace hol2 := Lib.hid hol2; replace heq := Lib.hid heq; replace fin := Lib.hid fin; replace happ := Lib.hid happ; replace hr9 := Lib.hid hr9; replace hb9 := Lib.hid hb9; replace G9 := Lib.hid G9; replace NX := Lib.hid NX; replace hn5 := Lib.hid hn5; replace hy := Lib.hid hy
        go_wp2_with (first | (at_builtin; refine wpList_append_run _ rfl _ _ _ rfl rfl rfl happ.out ?_))
        go_roundg (gk - 1)
        case measure => omega
        case rel => exact ⟨i + 1, _, _, _, by omega, by omega, by go_num, rfl, NX.out⟩
      · obtain ⟨v', w9, b9, happ, hr9, hb9, G9⟩ := PutI.app hr hnw hF (by omega) x
        have x9 := G9.cell (p := ⟨B, off + i, none⟩) hB (by simp)
        rw [x2.out] at x9
        obtain ⟨o9, c9, rfl⟩ := hr9.len
        have hl9 : (out ++ [x]).length = n5 + 1 := by simp [hn5]
        obtain ⟨v2, w10, b10, happ2, hr10, hb10, G10⟩ := PutI.app hr9 hb9 G9 (by omega) y
        have e1 : putI x false (y :: l.drop (i + 1)) = x :: y :: l.drop (i + 1) := by simp [putI, putF, hc]
        rw [e1] at heq
        have NX := fin true (out ++ [x]) (by rw [← heq]; simp [putI]) (by rw [List.length_append, hl9]; simp at hol ⊢; omega) _ _ _ hr10 hb10 G10
        rw [hn5] at happ ⊢
        rw [hl9] at happ happ2
        replace hr := Lib.hid hr; replace hnw := Lib.hid hnw; replace hF := Lib.hid hF; replace hol := Lib.hid hol; replace hol2 := Lib.hid hol2; replace heq := Lib.hid heq; replace fin := Lib.hid fin; replace happ := Lib.hid happ; replace hr9 := Lib.hid hr9; replace hb9 := Lib.hid hb9; replace G9 := Lib.hid G9; replace NX := Lib.hid NX; replace hn5 := Lib.hid hn5; replace hy := Lib.hid hy; replace happ2 := Lib.hid happ2; replace hr10 := Lib.hid hr10; replace hb10 := Lib.hid hb10; replace G10 := Lib.hid G10; replace hl9 := Lib.hid hl9; replace e1 := Lib.hid e1
        have hc2 : x ≤ y := by omega
        have d1 := decide_eq_true hc
        have d2 := decide_eq_true hc2
        go_wp2_with (first | (at_builtin; refine wpList_append_run _ rfl _ _ _ rfl rfl rfl happ.out ?_) | (at_builtin; refine wpList_append_run _ rfl _ _ _ rfl rfl rfl happ2.out ?_))
        go_roundg (gk - 1)
        case measure => omega
        case rel => exact ⟨i + 1, _, _, _, by omega, by omega, by go_num, rfl, NX.out⟩
      · obtain ⟨v', w9, b9, happ, hr9, hb9, G9⟩ := PutI.app hr hnw hF (by omega) x
        have e1 : putI x false (x :: l.drop (i + 1)) = x :: l.drop (i + 1) := by simp [putI, putF]
        rw [e1] at heq
        have NX := fin true out (by rw [← heq]; simp [putI]) (by simp at hol ⊢; omega) _ _ _ hr9 hb9 G9
        rw [hn5] at happ ⊢
        replace hr := Lib.hid hr; replace hnw := Lib.hid hnw; replace hF := Lib.hid hF; replace hol := Lib.hid hol; replace hol2 := Lib.hid hol2; replace heq := Lib.hid heq; replace fin := Lib.hid fin; replace happ := Lib.hid happ; replace hr9 := Lib.hid hr9; replace hb9 := Lib.hid hb9; replace G9 := Lib.hid G9; replace NX := Lib.hid NX; replace hn5 := Lib.hid hn5; replace hy := Lib.hid hy; replace e1 := Lib.hid e1
        go_wp2_with (first | (at_builtin; refine wpList_append_run _ rfl _ _ _ rfl rfl rfl happ.out ?_))
        go_roundg (gk - 1)
        case measure => omega
        case rel => exact ⟨i + 1, _, _, _, by omega, by omega, by go_num, rfl, NX.out⟩
      · obtain ⟨v', w9, b9, happ, hr9, hb9, G9⟩ := PutI.app hr hnw hF (by omega) y
        have e1 : putI x false (y :: l.drop (i + 1)) = y :: putI x false (l.drop (i + 1)) := by
          have h1 : ¬ x < y := by omega
          have h2 : ¬ x = y := by omega
          simp [putI, putF, h1, h2]
        rw [e1] at heq
        have NX := fin false out (by rw [← heq]; simp) (by simp at hol ⊢; omega) _ _ _ hr9 hb9 G9
        rw [hn5] at happ ⊢
        replace hr := Lib.hid hr; replace hnw := Lib.hid hnw; replace hF := Lib.hid hF; replace hol := Lib.hid hol; replace hol2 := Lib.hid hol2; replace heq := Lib.hid heq; replace fin := Lib.hid fin; replace happ := Lib.hid happ; replace hr9 := Lib.hid hr9; replace hb9 := Lib.hid hb9; replace G9 := Lib.hid G9; replace NX := Lib.hid NX; replace hn5 := Lib.hid hn5; replace hy := Lib.hid hy; replace e1 := Lib.hid e1
        have hc2 : ¬ x ≤ y := by omega
        have d2 := decide_eq_false hc2
        go_wp2_with (first | (at_builtin; refine wpList_append_run _ rfl _ _ _ rfl rfl rfl happ.out ?_))
        go_roundg (gk - 1)
        case measure => omega
        case rel => exact ⟨i + 1, _, _, _, by omega, by omega, by go_num, rfl, NX.out⟩
    · obtain rfl : i = N := by omega
      have hltI : ¬ (i : Int) < (i : Int) := by omega
      rw [show l.drop i = [] from List.drop_eq_nil_of_le (by have := hN.out; omega)] at heq
      cases d
      · obtain ⟨v', w9, b9, happ, hr9, hb9, G9⟩ := PutI.app hr hnw hF (by omega) x
        have e2 : out ++ [x] = putF x l := heq
        have GO : RowI w (putF x l) (.returned v') w9 := ⟨_, rfl, by rw [← e2]; exact hr9.iin, G9⟩
        rw [hn5] at happ ⊢
        replace hr := Lib.hid hr; replace hnw := Lib.hid hnw; replace hF := Lib.hid hF; replace hol := Lib.hid hol; replace hol2 := Lib.hid hol2; replace heq := Lib.hid heq; replace happ := Lib.hid happ; replace hr9 := Lib.hid hr9; replace hb9 := Lib.hid hb9; replace G9 := Lib.hid G9; replace hn5 := Lib.hid hn5; replace GO := Lib.hid GO; replace e2 := Lib.hid e2
        go_wp2_with (first | (at_builtin; refine wpList_append_run _ rfl _ _ _ rfl rfl rfl happ.out ?_))
        go_ret
        exact GO.out
      · have e2 : out = putF x l := by rw [← heq]; simp [putI]
        have GO : RowI w (putF x l) (.returned (.slice o5 n5 c5)) wi := ⟨_, rfl, by rw [← e2, ← hn5]; exact hr.iin, hF⟩
        rw [hn5]
        replace hr := Lib.hid hr; replace hnw := Lib.hid hnw; replace hF := Lib.hid hF; replace hol := Lib.hid hol; replace hol2 := Lib.hid hol2; replace heq := Lib.hid heq; replace hn5 := Lib.hid hn5; replace GO := Lib.hid GO; replace e2 := Lib.hid e2
        go_wp2_with fail
        go_ret
        exact GO.out
end Go.Proofs.Ytehmfnpiidcbpaa
