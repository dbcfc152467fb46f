import Derived.Test.YtjgmlnkbplgloaaS7
namespace Go.Proofs.Ytjgmlnkbplgloaa
open Go.RowKit
set_option linter.unusedVariables false
set_option linter.unusedSimpArgs false
set_option maxHeartbeats 4000000
set_option maxRecDepth 20000
variable {X : List Nat}
/-- A point of one's own is set. -/
theorem point_own (b : Nat) (s : SS) (w : World) (h : SM X w b s) (hn : s.own.length < 900000) (hm : 0 ≤ s.m ∧ s.m < 999999) :
    Calls Try.prog 38 #[.pointer (some ⟨b, 0, none⟩), .int .i64 1, .pointer (some ⟨b, 6, none⟩), .int .i64 1] w fun e w' => e = .returned (.int .i64 s.m) ∧ SM X w' b { s with m := s.m + 1, own := s.own ++ [s.m] } ∧ Fr [b] w w' := by
  obtain ⟨vo, vt, hp, ho, ht⟩ := h
  have w1 : wrap64 (s.m + 1) = s.m + 1 := by unfold wrap64; omega
  obtain ⟨wa, hwa⟩ : ∃ x, w.setCell ⟨b, 2, none⟩ (.int .i64 (s.m + 1)) = x := ⟨_, rfl⟩
  have PA : Pt wa b TSide (SS.cells { s with m := s.m + 1 } vo vt) := by rw [← hwa]; exact hp.set' rfl
  have FA : Fr [b] w wa := by rw [← hwa]; exact (Fr.refl _ _).setCell (by simp) _
  have hta := ht.fr FA (by simp)
  have hoa := ho.fr FA (by simp)
  have C := Lib.hid (clone_any vo s.own wa b hoa (by omega))
  have hc := hp.cell
  have hz := hp.free
  have ca := PA.cell
  have za := PA.free
  simp only [SS.cells] at hc ca
  have hlt := hp.lt
  have hla := PA.lt
  replace hp := Lib.hid hp; replace PA := Lib.hid PA; replace FA := Lib.hid FA; replace hta := Lib.hid hta; replace hoa := Lib.hid hoa; replace ho := Lib.hid ho; replace ht := Lib.hid ht
  go_enter Try.func38, Try.ntmps38
  go_wp2_with fail
  refine C.out.mono ?_
  rintro e w2 ⟨v2, bo2, rfl, hR, hb, f2⟩
  obtain ⟨v', w4, bo', hrun, hR4, hb4, hF4⟩ := hR.one (by omega) s.m
  have F24 : Fr [] wa w4 := f2.step hF4 (fun x hx => .inr (hb x (by simpa using hx)))
  have P4 := F24.pt PA.out (by simp)
  have z4 := P4.free
  have c4 := P4.cell
  simp only [SS.cells] at c4
  obtain ⟨o4, k4, rfl⟩ := hR4.len
  have hnb : ∀ z, bo' = some z → z ∉ X := fun z hz hm => by
    have hA := hoa.out.1.2 z hm
    rcases hb4 with h | ⟨y, h, hy⟩
    · rw [h] at hz; have := hb z hz; omega
    · rw [h] at hz; cases hz; have := f2.size; omega
  have FS : Fr [b] w4 (w4.setCell ⟨b, 6, none⟩ (.slice o4 (s.own ++ [s.m]).length k4)) := (Fr.refl _ _).setCell (by simp) _
  have IN := (hR4.fr FS (fun z hz => by have h5 := hnb z hz; simp only [List.mem_singleton]; exact fun e => h5 (e ▸ hoa.out.1.1))).ir ((hoa.out.1.fr F24).fr FS) hnb
  have FIN : SM X (w4.setCell ⟨b, 6, none⟩ (.slice o4 (s.own ++ [s.m]).length k4)) b { s with m := s.m + 1, own := s.own ++ [s.m] } ∧ Fr [b] w (w4.setCell ⟨b, 6, none⟩ (.slice o4 (s.own ++ [s.m]).length k4)) :=
    ⟨⟨_, _, P4.set' rfl, IN, (hta.out.fr F24 (by simp)).fr FS (by simp)⟩, FA.out.trans ((F24.mono (by simp)).trans FS)⟩
  simp only [List.length_append, List.length_cons, List.length_nil] at FIN
  replace FIN := Lib.hid FIN; replace hrun := Lib.hid hrun; replace hR4 := Lib.hid hR4; replace hR := Lib.hid hR; replace hb := Lib.hid hb; replace f2 := Lib.hid f2; replace hF4 := Lib.hid hF4; replace F24 := Lib.hid F24; replace P4 := Lib.hid P4; replace FS := Lib.hid FS; replace IN := Lib.hid IN
  clear hb4 hnb
  go_wp2_with (first | (at_builtin; refine wpList_append_run _ rfl _ _ _ rfl rfl rfl hrun.out ?_))
  go_ret
  exact ⟨rfl, FIN.out⟩
/-- A major point is set. -/
theorem point_major (b : Nat) (s : SS) (j : Nat) (who : Int) (w : World) (h : SM X w b s) (hm : 0 ≤ s.m ∧ s.m < 999999) :
    Calls Try.prog 38 #[.pointer (some ⟨b, 0, none⟩), .int .i64 3, .pointer (some ⟨b, j, none⟩), .int .i64 who] w fun e w' => e = .returned (.int .i64 s.m) ∧ SM X w' b { s with m := s.m + 1, major := who } ∧ Fr [b] w w' := by
  have w1 : wrap64 (s.m + 1) = s.m + 1 := by unfold wrap64; omega
  have S2 := (h.put (j := 2) (v := .int .i64 (s.m + 1)) (s' := { s with m := s.m + 1 }) (fun _ _ => rfl) rfl rfl).put (j := 5) (v := .int .i64 who) (s' := { s with m := s.m + 1, major := who }) (fun _ _ => rfl) rfl rfl
  have F2 : Fr [b] w ((w.setCell ⟨b, 2, none⟩ (.int .i64 (s.m + 1))).setCell ⟨b, 5, none⟩ (.int .i64 who)) := ((Fr.refl _ _).setCell (by simp) _).setCell (by simp) _
  obtain ⟨vo, vt, hp, ho, ht⟩ := h
  have hc := hp.cell
  have hz := hp.free
  simp only [SS.cells] at hc
  replace hp := Lib.hid hp; replace ho := Lib.hid ho; replace ht := Lib.hid ht; replace S2 := Lib.hid S2; replace F2 := Lib.hid F2
  go_enter Try.func38, Try.ntmps38
  go_wp2_with fail
  go_ret
  exact ⟨rfl, S2.out, F2.out⟩
end Go.Proofs.Ytjgmlnkbplgloaa
