import Derived.Test.YtjgmlnkbplgloaaR6
import Derived.Test.YtjgmlnkbplgloaaQ3
namespace Go.Proofs.Ytjgmlnkbplgloaa
open Go.RowKit
set_option linter.unusedVariables false
set_option linter.unusedSimpArgs false
set_option maxHeartbeats 8000000
set_option maxRecDepth 20000
/-- What a call leaves of the reference's side: its lists lie where they lay, or in new memory. -/
def RN (b : Nat) (bo bt : Option Nat) (w : World) (s' : RS) (w' : World) : Prop := (∃ bo' bt', RM w' b s' bo' bt' ∧ (∀ z, bo' = some z → bo = some z ∨ w.heap.size ≤ z) ∧ ∀ z, bt' = some z → bt = some z ∨ w.heap.size ≤ z) ∧ Fr (b :: (bo.toList ++ bt.toList)) w w'
def RonR (b : Nat) (bo bt : Option Nat) (w : World) (s' : RS) (L : List Ev) (c : Int) (r : Ending) (w' : World) : Prop := (∃ v, r = .returned (.tuple #[v, .int .i64 c]) ∧ EvRes w.heap.size w' v L) ∧ RN b bo bt w s' w'
def RbeR (b : Nat) (bo bt : Option Nat) (w : World) (s' : RS) (L : List Ev) (r : Ending) (w' : World) : Prop := (∃ v, r = .returned v ∧ EvRes w.heap.size w' v L) ∧ RN b bo bt w s' w'
theorem RM.rn {b : Nat} {bo bt : Option Nat} {w w' : World} {s' : RS} (h : RM w' b s' bo bt) (hf : Fr [b] w w') : RN b bo bt w s' w' := ⟨⟨bo, bt, h, fun _ => .inl, fun _ => .inl⟩, hf.mono (by simp)⟩
theorem RN.after {b : Nat} {bo bt : Option Nat} {w0 w w' : World} {s' : RS} (h : RN b bo bt w s' w') (hf : Fr [b] w0 w) : RN b bo bt w0 s' w' := by
  obtain ⟨⟨bo', bt', h1, h2, h3⟩, h4⟩ := h
  exact ⟨⟨bo', bt', h1, fun z hz => (h2 z hz).imp_right fun h => Nat.le_trans hf.size h, fun z hz => (h3 z hz).imp_right fun h => Nat.le_trans hf.size h⟩, (hf.mono (by simp)).trans h4⟩
theorem RN.then {b : Nat} {bo bt : Option Nat} {w w' w'' : World} {s' : RS} (h : RN b bo bt w s' w') (hf : Fr [] w' w'') : RN b bo bt w s' w'' := by
  obtain ⟨⟨bo', bt', h1, h2, h3⟩, h4⟩ := h
  exact ⟨⟨bo', bt', h1.fr0 hf, h2, h3⟩, h4.trans (hf.mono (by simp))⟩
theorem RN.news {b : Nat} {bo bt : Option Nat} {w w' : World} {s' : RS} (h : ∃ bo' bt', RM w' b s' bo' bt' ∧ (∀ z, bo' = some z → w.heap.size ≤ z) ∧ ∀ z, bt' = some z → w.heap.size ≤ z) (hf : Fr [b] w w') : RN b bo bt w s' w' := by
  obtain ⟨bo', bt', h1, h2, h3⟩ := h
  exact ⟨⟨bo', bt', h1, fun z hz => .inr (h2 z hz), fun z hz => .inr (h3 z hz)⟩, hf.mono (by simp)⟩
theorem rpoint_busy (b : Nat) (s : RS) (bo bt : Option Nat) (mj : Bool) (w : World) (h : RM w b s bo bt) (hx : s.opn ≠ 0) :
    Calls Try.prog 47 #[.pointer (some ⟨b, 0, none⟩), .bool mj] w (RonR b bo bt w s [] 8) := by
  have hR := Lib.hid h
  obtain ⟨vo, vt, hp, _⟩ := h
  have hc := hp.cell
  simp only [RS.cells] at hc
  have hxb : (s.opn != 0) = true := by simpa using hx
  clear hp
  go_enter Try.func47, Try.ntmps47
  go_wp2_with fail
  go_ret2
  exact ⟨⟨_, rfl, .inl ⟨rfl, rfl⟩⟩, hR.out.rn (Fr.refl _ _)⟩
theorem rpoint_far (b : Nat) (s : RS) (bo bt : Option Nat) (mj : Bool) (w : World) (h : RM w b s bo bt) (hx : s.opn = 0) (hm : s.m = 999999) :
    Calls Try.prog 47 #[.pointer (some ⟨b, 0, none⟩), .bool mj] w (RonR b bo bt w s [] 5) := by
  have hR := Lib.hid h
  obtain ⟨vo, vt, hp, _⟩ := h
  have hc := hp.cell
  simp only [RS.cells, hx, hm] at hc
  replace hx := Lib.hid hx; replace hm := Lib.hid hm
  clear hp
  go_enter Try.func47, Try.ntmps47
  go_wp2_with fail
  go_ret2
  exact ⟨⟨_, rfl, .inl ⟨rfl, rfl⟩⟩, hR.out.rn (Fr.refl _ _)⟩
theorem rpoint_maj (b : Nat) (s : RS) (bo bt : Option Nat) (w : World) (h : RM w b s bo bt) (hx : s.opn = 0) (hm : 0 ≤ s.m ∧ s.m < 999999) :
    Calls Try.prog 47 #[.pointer (some ⟨b, 0, none⟩), .bool true] w (RonR b bo bt w { s with m := s.m + 1, opn := 1 } [⟨1, 3, s.m, 0, 0, ByteArray.empty⟩] 0) := by
  have h2 := (h.put (s' := { s with m := s.m + 1 }) (j := 1) (v := .int .i64 (s.m + 1)) (fun _ _ => rfl) rfl rfl).put (s' := { s with m := s.m + 1, opn := 1 }) (j := 4) (v := .int .i64 1) (fun _ _ => rfl) rfl rfl
  have f2 : Fr [b] w ((w.setCell ⟨b, 1, none⟩ (.int .i64 (s.m + 1))).setCell ⟨b, 4, none⟩ (.int .i64 1)) := ((Fr.refl _ _).setCell (by simp) _).setCell (by simp) _
  obtain ⟨w2, hw2⟩ : ∃ x, (w.setCell ⟨b, 1, none⟩ (.int .i64 (s.m + 1))).setCell ⟨b, 4, none⟩ (.int .i64 1) = x := ⟨_, rfl⟩
  rw [hw2] at h2 f2
  obtain ⟨vo, vt, hp, _⟩ := h
  have hc := hp.cell
  have hz := hp.free
  simp only [RS.cells, hx] at hc
  have hmb : (s.m == 999999) = false := by rw [beq_eq_false_iff_ne]; omega
  replace h2 := Lib.hid h2; replace f2 := Lib.hid f2; replace hx := Lib.hid hx; replace hw2 := Lib.hid hw2
  clear hp
  go_enter Try.func47, Try.ntmps47
  go_wp2_with fail
  rw [hw2.out]
  refine (one_any 1 3 s.m 0 w2).mono ?_
  rintro e w3 ⟨⟨v, rfl, hv⟩, f3⟩
  have V := hv.le f2.out.size
  have R := (h2.out.rn f2.out).then f3
  replace V := Lib.hid V; replace R := Lib.hid R
  clear hv f3
  go_wp2_with fail
  go_ret2
  exact ⟨⟨_, rfl, V.out⟩, R.out⟩
theorem rpoint_min (b : Nat) (s : RS) (bo bt : Option Nat) (w : World) (h : RM w b s bo bt) (hx : s.opn = 0) (hm : 0 ≤ s.m ∧ s.m < 999999) (hn : s.own.length < 900000) :
    Calls Try.prog 47 #[.pointer (some ⟨b, 0, none⟩), .bool false] w (RonR b bo bt w { s with m := s.m + 1, own := s.own ++ [s.m] } [⟨1, 1, s.m, 0, 0, ByteArray.empty⟩] 0) := by
  obtain ⟨wa, hwa⟩ : ∃ x, w.setCell ⟨b, 1, none⟩ (.int .i64 (s.m + 1)) = x := ⟨_, rfl⟩
  have ha := h.put (s' := { s with m := s.m + 1 }) (j := 1) (v := .int .i64 (s.m + 1)) (fun _ _ => rfl) rfl rfl
  rw [hwa] at ha
  have fa : Fr [b] w wa := by rw [← hwa]; exact (Fr.refl _ _).setCell (by simp) _
  obtain ⟨vo, vt, hp, _⟩ := h
  have hc := hp.cell
  have hz := hp.free
  simp only [RS.cells, hx] at hc
  obtain ⟨vo', vt', pa, ro, rt, x1, x2⟩ := ha
  obtain ⟨v', w4, bo', hrun, hR4, hb4, hF4⟩ := ro.one (by show s.own.length < 1000000; omega) s.m
  have hbn : ∀ y ∈ bo.toList, y ≠ b ∧ y ∉ bt.toList := fun y hy => by
    have := x1 y (by simpa using hy)
    exact ⟨this.1, fun h2 => this.2 (by simpa using h2)⟩
  have P4 := hF4.pt pa (fun hm => (hbn b hm).1 rfl)
  have z4 := P4.free
  have c4 := P4.cell
  have ca := pa.cell
  simp only [RS.cells] at c4 ca
  obtain ⟨o4, k4, rfl⟩ := hR4.len
  have hlb := pa.lt
  have hnb : ∀ z, bo' = some z → z ≠ b ∧ bt ≠ some z := fun z hz => by
    rcases hb4 with h | ⟨y, h, hy⟩
    · rw [h] at hz; exact x1 z hz
    · rw [h] at hz; cases hz
      have hyw : wa.heap.size ≤ z := hy
      refine ⟨by omega, fun h2 => ?_⟩
      subst h2
      have := rt.lt
      omega
  have rt4 := rt.fr hF4 (fun z hz hm => (hbn z hm).2 (by simp [hz]))
  have FS : Fr [b] w4 (w4.setCell ⟨b, 5, none⟩ (.slice o4 (s.own ++ [s.m]).length k4)) := (Fr.refl _ _).setCell (by simp) _
  have RM5 : RM (w4.setCell ⟨b, 5, none⟩ (.slice o4 (s.own ++ [s.m]).length k4)) b { s with m := s.m + 1, own := s.own ++ [s.m] } bo' bt :=
    ⟨_, _, P4.set' rfl, hR4.fr FS (fun z hz => by have := (hnb z hz).1; simp; exact this), rt4.fr FS (fun z hz => by have := x2 z hz; simp; exact this), hnb, x2⟩
  have F5 : Fr (b :: (bo.toList ++ bt.toList)) w (w4.setCell ⟨b, 5, none⟩ (.slice o4 (s.own ++ [s.m]).length k4)) :=
    ((fa.mono (by simp)).trans (hF4.mono (fun x hx => by simp at hx ⊢; simp [hx]))).trans (FS.mono (by simp))
  have hszw : w.heap.size = wa.heap.size := by rw [← hwa]; simp [World.setCell]
  have RN5 : RN b bo bt w { s with m := s.m + 1, own := s.own ++ [s.m] } (w4.setCell ⟨b, 5, none⟩ (.slice o4 (s.own ++ [s.m]).length k4)) :=
    ⟨⟨bo', bt, RM5, fun z hz => by
      rcases hb4 with h | ⟨y, h, hy⟩
      · rw [h] at hz; exact .inl hz
      · rw [h] at hz; cases hz; right; rw [hszw]; exact hy, fun z hz => .inl hz⟩, F5⟩
  have hmb : (s.m == 999999) = false := by rw [beq_eq_false_iff_ne]; omega
  obtain ⟨wb, hwb⟩ : ∃ n, wa.heap.size = n := ⟨_, rfl⟩
  rw [hwb] at hrun
  obtain ⟨ol, kl, hvl⟩ := ro.len
  obtain ⟨ln, hln⟩ : ∃ n, (s.own ++ [s.m]).length = n := ⟨_, rfl⟩
  rw [hln] at hrun RN5
  replace hrun := Lib.hid hrun; replace RN5 := Lib.hid RN5; replace RM5 := Lib.hid RM5; replace F5 := Lib.hid F5; replace hR4 := Lib.hid hR4; replace hb4 := Lib.hid hb4; replace hF4 := Lib.hid hF4; replace rt4 := Lib.hid rt4; replace FS := Lib.hid FS; replace hln := Lib.hid hln; replace hvl := Lib.hid hvl; replace P4 := Lib.hid P4; replace pa := Lib.hid pa; replace ro := Lib.hid ro; replace rt := Lib.hid rt; replace fa := Lib.hid fa; replace hp := Lib.hid hp; replace hszw := Lib.hid hszw; replace hx := Lib.hid hx
  replace x1 := Lib.hid x1; replace x2 := Lib.hid x2; replace hnb := Lib.hid hnb; replace hbn := Lib.hid hbn
  go_enter Try.func47, Try.ntmps47
  go_wp2_with (first | (at_builtin; refine wpList_append_run _ rfl _ _ _ rfl rfl rfl hrun.out ?_))
  refine (one_any 1 1 s.m 0 _).mono ?_
  rintro e w5 ⟨⟨v, rfl, hv⟩, f5⟩
  have V := hv.le RN5.out.2.size
  have R := RN5.out.then f5
  replace V := Lib.hid V; replace R := Lib.hid R
  clear hv f5
  go_wp2_with fail
  go_ret2
  exact ⟨⟨_, rfl, V.out⟩, R.out⟩
end Go.Proofs.Ytjgmlnkbplgloaa
