import Derived.Test.YtnggimkkjdipmaaTB19
namespace Go.Proofs.Ytnggimkkjdipmaa
open Go.RowKit
set_option linter.unusedVariables false
set_option linter.unusedSimpArgs false
set_option maxHeartbeats 16000000
set_option maxRecDepth 100000
/-- Least's answer. -/
def LeastR (T : Tb) (w : World) (e : Ending) (w' : World) : Prop :=
  ∃ v' : Value, ∃ s : Int, e = .returned (.tuple #[v', .int .i64 s]) ∧ ((validT T = true ∧ s = 0 ∧ TIn w' v' (leastT T)) ∨ (validT T = false ∧ s = 1 ∧ v' = Tb.val ⟨0, 0, 0, []⟩ (.slice none 0 0))) ∧ Fr [] w w'
theorem Least_any (T : Tb) (v : Value) (w : World) (hT : TIn w v T) :
    Calls Try.prog 31 #[v] w (LeastR T w) := by
  obtain ⟨r, rfl, hR⟩ := hT
  have hval : T.val r = .agg #[.int .i64 T.st, .int .i64 T.ev, .int .i64 T.sr, r] := rfl
  rw [hval]
  have VA : ∀ W, Fr [] w W → Calls Try.prog 19 #[.agg #[.int .i64 T.st, .int .i64 T.ev, .int .i64 T.sr, r]] W fun e w' => e = .returned (.bool (validT T)) ∧ Fr [] W w' := fun W f => valid_any T _ W ⟨r, rfl, hR.fr f⟩
  have LE : ∀ W, Fr [] w W → VT T → Calls Try.prog 67 #[.agg #[.int .i64 T.st, .int .i64 T.ev, .int .i64 T.sr, r]] W fun e w' => ∃ q0 q1 q2 r', e = .returned (.agg #[.int .i64 q0, .int .i64 q1, .int .i64 q2, r']) ∧ q0 = (leastT T).st ∧ q1 = (leastT T).ev ∧ q2 = (leastT T).sr ∧ RInB (fun b => W.heap.size ≤ b) w' r' (leastT T).rows ∧ Fr [] W w' := fun W f hV => (least_any T _ W ⟨r, rfl, hR.fr f⟩ hV).mono (fun e w' h => by
    obtain ⟨r', h1, h2, h3⟩ := h
    exact ⟨_, _, _, r', h1, rfl, rfl, rfl, h2, h3⟩)
  obtain ⟨w1, hw1⟩ : ∃ x, w.alloc (.cells #[.int .i64 T.st, .int .i64 T.ev, .int .i64 T.sr, r] TTab) = x := ⟨_, rfl⟩
  have P1 := Pt.newA w TTab #[.int .i64 T.st, .int .i64 T.ev, .int .i64 T.sr, r]
  rw [hw1] at P1
  have F1 : Fr [] w w1 := by rw [← hw1]; exact (Fr.refl [] w).alloc _
  obtain ⟨b1, hb1⟩ : ∃ x, w.heap.size = x := ⟨_, rfl⟩
  rw [hb1] at P1
  obtain ⟨w2, hw2⟩ : ∃ x, w1.alloc (.cells #[.int .i64 0, .int .i64 0, .int .i64 0, .slice none 0 0] TTab) = x := ⟨_, rfl⟩
  have P2 := Pt.newA w1 TTab #[.int .i64 0, .int .i64 0, .int .i64 0, .slice none 0 0]
  rw [hw2] at P2
  have F2 : Fr [] w1 w2 := by rw [← hw2]; exact (Fr.refl [] w1).alloc _
  obtain ⟨b2, hb2⟩ : ∃ x, w1.heap.size = x := ⟨_, rfl⟩
  rw [hb2] at P2
  have l1 := P1.lt
  have lt12 : b1 < b2 := by omega
  have PA1 := F2.pt P1 (by simp)
  have FA := F1.trans F2
  have k1 := PA1.cell
  replace PA1 := Lib.hid PA1; replace P1 := Lib.hid P1; replace P2 := Lib.hid P2; replace F1 := Lib.hid F1; replace F2 := Lib.hid F2; replace FA := Lib.hid FA; replace VA := Lib.hid VA; replace LE := Lib.hid LE
  go_enter Try.func31, Try.ntmps31
  go_wp2_with fail
  refine (VA.out _ FA.out).mono ?_
  rintro e w3 ⟨rfl, f3⟩
  have k3 := (f3.pt PA1.out (by simp)).cell
  have P32 := f3.pt P2.out (by simp)
  have FB := FA.out.trans f3
  have z32 := P32.free
  have c32 := P32.cell
  clear k1
  replace FB := Lib.hid FB; replace P32 := Lib.hid P32; replace f3 := Lib.hid f3
  cases hv : validT T
  · have FE : Fr [b2] w3 ((((w3.setCell ⟨b2, 0, none⟩ (.int .i64 0)).setCell ⟨b2, 1, none⟩ (.int .i64 0)).setCell ⟨b2, 2, none⟩ (.int .i64 0)).setCell ⟨b2, 3, none⟩ (.slice none 0 0)) :=
      ((((Fr.refl [b2] w3).setCell (by simp) _).setCell (by simp) _).setCell (by simp) _).setCell (by simp) _
    have FF := FB.out.step FE (by simp; omega)
    replace FE := Lib.hid FE; replace FF := Lib.hid FF
    have hv' := Lib.hid hv
    go_wp2_with fail
    refine bodyPost_ret (v := .tuple #[.agg #[.int .i64 0, .int .i64 0, .int .i64 0, .slice none 0 0], .int .i64 1]) (by simp [results, Try.results31, go_sem, c32]) rfl ⟨_, 1, rfl, .inr ⟨hv'.out, rfl, rfl⟩, FF.out⟩
  · have hVT := (validT_iff T).mp hv
    have hv' := Lib.hid hv
    go_wp2_with fail
    refine (LE.out _ FB.out hVT).mono ?_
    rintro e w4 ⟨q0, q1, q2, r', rfl, e0, e1, e2, ht, f4⟩
    obtain ⟨oz, nz, cz, rfl⟩ : ∃ oz nz cz, r' = .slice oz nz cz := by obtain ⟨o, cap, e, _⟩ := ht; exact ⟨o, _, cap, e⟩
    have P42 := f4.pt P32.out (by simp)
    have z42 := P42.free
    have c42 := P42.cell
    have FE : Fr [b2] w4 ((((w4.setCell ⟨b2, 0, none⟩ (.int .i64 q0)).setCell ⟨b2, 1, none⟩ (.int .i64 q1)).setCell ⟨b2, 2, none⟩ (.int .i64 q2)).setCell ⟨b2, 3, none⟩ (.slice oz nz cz)) :=
      ((((Fr.refl [b2] w4).setCell (by simp) _).setCell (by simp) _).setCell (by simp) _).setCell (by simp) _
    have FF := (FB.out.trans f4).step FE (by simp; omega)
    have hlt := P32.out.lt
    have RE := (ht.fr FE (q' := fun _ => True) (fun b _ hq => ⟨by have h9 : w3.heap.size ≤ b := hq; simp; omega, trivial⟩)).rin
    have hv2 := Lib.hid hv
    replace e0 := Lib.hid e0; replace e1 := Lib.hid e1; replace e2 := Lib.hid e2
    replace FE := Lib.hid FE; replace FF := Lib.hid FF; replace RE := Lib.hid RE; replace ht := Lib.hid ht; replace f4 := Lib.hid f4; replace P42 := Lib.hid P42
    clear hv hw2 hw1
    go_wp2_with fail
    refine bodyPost_ret (v := .tuple #[.agg #[.int .i64 q0, .int .i64 q1, .int .i64 q2, .slice oz nz cz], .int .i64 0]) (by simp [results, Try.results31, go_sem, c42]) rfl ⟨_, 0, rfl, .inl ⟨hv2.out, rfl, .slice oz nz cz, ?_, RE.out⟩, FF.out⟩
    rw [e0.out, e1.out, e2.out]; rfl
end Go.Proofs.Ytnggimkkjdipmaa
