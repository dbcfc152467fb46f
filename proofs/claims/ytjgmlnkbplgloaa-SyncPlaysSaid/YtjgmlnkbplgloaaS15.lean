import Derived.Test.YtjgmlnkbplgloaaS14
namespace Go.Proofs.Ytjgmlnkbplgloaa
open Go.RowKit
set_option linter.unusedVariables false
set_option linter.unusedSimpArgs false
set_option maxHeartbeats 8000000
set_option maxRecDepth 20000
variable {X : List Nat}
theorem copy_fin {w W : World} {bc : Nat} {s : SS} {v0 v1 vA vB : Value} {boA boB : Option Nat} (PL : Pt W bc TSide (s.cells v0 v1)) (hA : Row 1 W vA s.own.length (ints s.own) boA) (hB : Row 1 W vB s.theirs.length (ints s.theirs) boB) (zA : ∀ z, boA = some z → bc < z) (zB : ∀ z, boB = some z → bc < z) (F : Fr [] w W) (hbc : w.heap.size = bc) :
    ((∀ Y : List Nat, bc ∈ Y → (∀ y ∈ Y, y ≤ bc) → SM Y ((W.setCell ⟨bc, 6, none⟩ vA).setCell ⟨bc, 7, none⟩ vB) bc s) ∧ Fr [] w ((W.setCell ⟨bc, 6, none⟩ vA).setCell ⟨bc, 7, none⟩ vB)) ∧ ((∀ Y : List Nat, bc ∈ Y → (∀ y ∈ Y, y ≤ bc) → SM Y ((W.setCell ⟨bc, 7, none⟩ vB).setCell ⟨bc, 6, none⟩ vA) bc s) ∧ Fr [] w ((W.setCell ⟨bc, 7, none⟩ vB).setCell ⟨bc, 6, none⟩ vA)) := by
  have F1 : Fr [bc] W ((W.setCell ⟨bc, 6, none⟩ vA).setCell ⟨bc, 7, none⟩ vB) := ((Fr.refl _ _).setCell (by simp) _).setCell (by simp) _
  have F2 : Fr [bc] W ((W.setCell ⟨bc, 7, none⟩ vB).setCell ⟨bc, 6, none⟩ vA) := ((Fr.refl _ _).setCell (by simp) _).setCell (by simp) _
  have AV : ∀ Y : List Nat, bc ∈ Y → (∀ y ∈ Y, y ≤ bc) → Av Y W bc := fun Y h1 h2 => ⟨h1, fun y hy => by have := h2 y hy; have := PL.lt; omega⟩
  refine ⟨⟨fun Y h1 h2 => ⟨vA, vB, (PL.set' rfl).set' rfl, ?_, ?_⟩, F.step F1 (by simp; omega)⟩, ⟨fun Y h1 h2 => ⟨vA, vB, (PL.set' rfl).set' rfl, ?_, ?_⟩, F.step F2 (by simp; omega)⟩⟩
  · exact (hA.fr F1 (fun z hz => by have := zA z hz; simp; omega)).ir ((AV Y h1 h2).fr F1) (fun z hz hm => by have := zA z hz; have := h2 z hm; omega)
  · exact (hB.fr F1 (fun z hz => by have := zB z hz; simp; omega)).ir ((AV Y h1 h2).fr F1) (fun z hz hm => by have := zB z hz; have := h2 z hm; omega)
  · exact (hA.fr F2 (fun z hz => by have := zA z hz; simp; omega)).ir ((AV Y h1 h2).fr F2) (fun z hz hm => by have := zA z hz; have := h2 z hm; omega)
  · exact (hB.fr F2 (fun z hz => by have := zB z hz; simp; omega)).ir ((AV Y h1 h2).fr F2) (fun z hz hm => by have := zB z hz; have := h2 z hm; omega)
/-- A copy of a side. -/
theorem copy_side (b : Nat) (s : SS) (w : World) (h : SM X w b s) (hm : s.made = true) (hn : s.own.length < 1000000 ∧ s.theirs.length < 1000000) :
    Calls Try.prog 16 #[.pointer (some ⟨b, 0, none⟩)] w fun e w' => ∃ b2, e = .returned (.pointer (some ⟨b2, 0, none⟩)) ∧ w.heap.size ≤ b2 ∧ (∀ Y : List Nat, b2 ∈ Y → (∀ y ∈ Y, y ≤ b2) → SM Y w' b2 s) ∧ Fr [] w w' := by
  have NO := Lib.hid (none_any b s w h)
  rw [hm] at NO
  obtain ⟨vo, vt, hp, ho, ht⟩ := h
  have ho' := ho
  have ht' := ht
  obtain ⟨_, o1, k1, rfl, _⟩ := ho'
  obtain ⟨_, o2, k2, rfl, _⟩ := ht'
  have hc := hp.cell
  have hlt := hp.lt
  obtain ⟨wa, hwa⟩ : ∃ x, w.alloc (.cells #[.bool true, .bool s.first, .int .i64 s.m, .int .i64 s.a, .int .i64 s.r, .int .i64 s.major, .slice o1 s.own.length k1, .slice o2 s.theirs.length k2, .bool s.wt, .int .i64 s.wh, .int .i64 s.wn, .bool s.kt, .int .i64 s.kh, .int .i64 s.kn] TSide) = x := ⟨_, rfl⟩
  have PA : Pt (w.alloc (.cells #[.bool true, .bool s.first, .int .i64 s.m, .int .i64 s.a, .int .i64 s.r, .int .i64 s.major, .slice o1 s.own.length k1, .slice o2 s.theirs.length k2, .bool s.wt, .int .i64 s.wh, .int .i64 s.wn, .bool s.kt, .int .i64 s.kh, .int .i64 s.kn] TSide)) w.heap.size TSide (s.cells (.slice o1 s.own.length k1) (.slice o2 s.theirs.length k2)) := by
    have := Pt.newA w TSide #[.bool true, .bool s.first, .int .i64 s.m, .int .i64 s.a, .int .i64 s.r, .int .i64 s.major, .slice o1 s.own.length k1, .slice o2 s.theirs.length k2, .bool s.wt, .int .i64 s.wh, .int .i64 s.wn, .bool s.kt, .int .i64 s.kh, .int .i64 s.kn]
    unfold SS.cells; rw [hm]; exact this
  rw [hwa] at PA
  have FA : Fr [] w wa := by rw [← hwa]; exact (Fr.refl [] w).alloc _
  obtain ⟨bc, hbc⟩ : ∃ x, w.heap.size = x := ⟨_, rfl⟩
  rw [hbc] at PA
  have hbn : bc ≠ b := by omega
  have CO : ∀ W, Fr [] wa.drew W → Calls Try.prog 27 #[.slice o1 s.own.length k1] W fun e w' => ∃ v' bo, e = .returned v' ∧ Row 1 w' v' s.own.length (ints s.own) bo ∧ (∀ z, bo = some z → W.heap.size ≤ z) ∧ Fr [] W w' := fun W hf => clone_any (.slice o1 s.own.length k1) s.own W b ((ho.fr FA.drew (by simp)).fr hf (by simp)) hn.1
  have CT : ∀ W, Fr [] wa.drew W → Calls Try.prog 27 #[.slice o2 s.theirs.length k2] W fun e w' => ∃ v' bo, e = .returned v' ∧ Row 1 w' v' s.theirs.length (ints s.theirs) bo ∧ (∀ z, bo = some z → W.heap.size ≤ z) ∧ Fr [] W w' := fun W hf => clone_any (.slice o2 s.theirs.length k2) s.theirs W b ((ht.fr FA.drew (by simp)).fr hf (by simp)) hn.2
  have PB : ∀ W, Fr [] wa.drew W → Pt W bc TSide (s.cells (.slice o1 s.own.length k1) (.slice o2 s.theirs.length k2)) ∧ Pt W b TSide (s.cells (.slice o1 s.own.length k1) (.slice o2 s.theirs.length k2)) := fun W hf => ⟨hf.pt PA.drew (by simp), hf.pt (FA.pt hp (by simp)).drew (by simp)⟩
  have c0 := (PB _ (Fr.refl _ _)).2.cell
  simp only [SS.cells, hm] at hc c0
  have hal := PA.lt
  replace CO := Lib.hid CO; replace CT := Lib.hid CT; replace PB := Lib.hid PB; replace hp := Lib.hid hp; replace ho := Lib.hid ho; replace ht := Lib.hid ht; replace PA := Lib.hid PA; replace FA := Lib.hid FA; replace hwa := Lib.hid hwa
  have FR : Hid (Fr [] wa.drew wa.drew) := Fr.refl _ _
  go_enter Try.func16, Try.ntmps16
  go_wp2_with fail
  refine NO.out.mono ?_
  rintro e w1 ⟨rfl, rfl⟩
  go_wp2_with fail
  try rw [hwa.out]
  try go_wp2_with fail
  go_region_law (first
    | (go_simp; go_at_call 27; refine (CO.out _ (by first | exact FR.out | exact fB.out)).mono ?_; rintro e wA ⟨vA, boA, rfl, hRA, hbA, fA⟩; have gA := fA; have hbA := (show ∀ z, boA = some z → bc < z from fun z hz => Nat.lt_of_lt_of_le (Nat.lt_of_lt_of_le hal (by first | exact FR.out.size | exact fB.out.size)) (hbA z hz)); have hgA := hRA.len; obtain ⟨oA, kA, rfl⟩ := hgA; have fA := (show Fr [] wa.drew wA from by first | exact FR.out.trans fA | exact fB.out.trans fA); have pA := PB.out wA fA; have cA := pA.1.cell; have zA := pA.1.free; have dA := pA.2.cell; simp only [SS.cells, hm] at cA dA; replace hRA := Lib.hid hRA; replace hbA := Lib.hid hbA; replace gA := Lib.hid gA; replace fA := Lib.hid fA; replace pA := Lib.hid pA)
    | (go_simp; go_at_call 27; refine (CT.out _ (by first | exact FR.out | exact fA.out)).mono ?_; rintro e wB ⟨vB, boB, rfl, hRB, hbB, fB⟩; have gB := fB; have hbB := (show ∀ z, boB = some z → bc < z from fun z hz => Nat.lt_of_lt_of_le (Nat.lt_of_lt_of_le hal (by first | exact FR.out.size | exact fA.out.size)) (hbB z hz)); have hgB := hRB.len; obtain ⟨oB, kB, rfl⟩ := hgB; have fB := (show Fr [] wa.drew wB from by first | exact FR.out.trans fB | exact fA.out.trans fB); have pB := PB.out wB fB; have cB := pB.1.cell; have zB := pB.1.free; have dB := pB.2.cell; simp only [SS.cells, hm] at cB dB; replace hRB := Lib.hid hRB; replace hbB := Lib.hid hbB; replace gB := Lib.hid gB; replace fB := Lib.hid fB; replace pB := Lib.hid pB))
  all_goals
    go_wp2_with fail
    go_ret
    first
      | (have R := copy_fin pB.out.1 (hRA.out.fr gB.out (by simp)) hRB.out hbA.out hbB.out (FA.out.drew.trans fB.out) hbc; first | exact ⟨bc, rfl, by omega, R.1⟩ | exact ⟨bc, rfl, by omega, R.2⟩)
      | (have R := copy_fin pA.out.1 hRA.out (hRB.out.fr gA.out (by simp)) hbA.out hbB.out (FA.out.drew.trans fA.out) hbc; first | exact ⟨bc, rfl, by omega, R.1⟩ | exact ⟨bc, rfl, by omega, R.2⟩)
end Go.Proofs.Ytjgmlnkbplgloaa
