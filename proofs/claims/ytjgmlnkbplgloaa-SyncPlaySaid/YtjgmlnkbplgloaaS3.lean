import Derived.Test.YtjgmlnkbplgloaaS2
namespace Go.Proofs.Ytjgmlnkbplgloaa
open Go.RowKit
set_option linter.unusedVariables false
set_option linter.unusedSimpArgs false
set_option maxHeartbeats 4000000
set_option maxRecDepth 20000
variable {X : List Nat}
theorem SM.fr {w w' : World} {b : Nat} {s : SS} (h : SM X w b s) (hf : Fr [] w w') : SM X w' b s := by
  obtain ⟨vo, vt, hp, ho, ht⟩ := h
  exact ⟨vo, vt, hf.pt hp (by simp), ho.fr hf (by simp), ht.fr hf (by simp)⟩
theorem none_any (b : Nat) (s : SS) (w : World) (h : SM X w b s) : Calls Try.prog 23 #[.pointer (some ⟨b, 0, none⟩)] w fun e w' => e = .returned (.bool (!s.made)) ∧ w = w' := by
  obtain ⟨vo, vt, hp, _, _⟩ := h
  have hc := hp.cell
  simp only [SS.cells] at hc
  clear hp
  cases hm : s.made
  all_goals
    simp only [hm] at hc
    go_enter Try.func23, Try.ntmps23
    go_wp2_with fail
    go_ret
    exact ⟨rfl, rfl⟩
theorem none_nil (w : World) : Calls Try.prog 23 #[.pointer none] w fun e w' => e = .returned (.bool true) ∧ w = w' := by
  go_enter Try.func23, Try.ntmps23
  go_wp2_with fail
  go_ret
  exact ⟨rfl, rfl⟩
theorem told_any (k a b : Int) (w : World) : Calls Try.prog 45 #[.int .i64 k, .int .i64 a, .int .i64 b] w fun e w' => (∃ v, e = .returned v ∧ EvRes w.heap.size w' v [⟨0, k, a, b, 0, ByteArray.empty⟩]) ∧ Fr [] w w' := by
  go_enter Try.func45, Try.ntmps45
  go_wp2_with fail
  go_ret
  exact ⟨⟨_, rfl, .inr ⟨_, _, rfl, rfl, Pt.newA _ _ _, Nat.le_refl _⟩⟩, (Fr.refl _ _).alloc _⟩
theorem sent_any (k a b : Int) (w : World) : Calls Try.prog 39 #[.int .i64 k, .int .i64 a, .int .i64 b] w fun e w' => (∃ v, e = .returned v ∧ EvRes w.heap.size w' v [⟨1, k, a, b, 0, ByteArray.empty⟩]) ∧ Fr [] w w' := by
  go_enter Try.func39, Try.ntmps39
  go_wp2_with fail
  go_ret
  exact ⟨⟨_, rfl, .inr ⟨_, _, rfl, rfl, Pt.newA _ _ _, Nat.le_refl _⟩⟩, (Fr.refl _ _).alloc _⟩
/-- A point of the other side's is set. -/
theorem point_theirs (b : Nat) (s : SS) (w : World) (h : SM X w b s) (hn : s.theirs.length < 900000) (hm : 0 ≤ s.m ∧ s.m < 999999) :
    Calls Try.prog 38 #[.pointer (some ⟨b, 0, none⟩), .int .i64 1, .pointer (some ⟨b, 7, none⟩), .int .i64 2] w fun e w' => e = .returned (.int .i64 s.m) ∧ SM X w' b { s with m := s.m + 1, theirs := s.theirs ++ [s.m] } ∧ Fr [b] w w' := by
  obtain ⟨vo, vt, hp, ho, ht⟩ := h
  have w1 : wrap64 (s.m + 1) = s.m + 1 := by unfold wrap64; omega
  obtain ⟨wa, hwa⟩ : ∃ x, w.setCell ⟨b, 2, none⟩ (.int .i64 (s.m + 1)) = x := ⟨_, rfl⟩
  have PA : Pt wa b TSide (SS.cells { s with m := s.m + 1 } vo vt) := by rw [← hwa]; exact hp.set' rfl
  have FA : Fr [b] w wa := by rw [← hwa]; exact (Fr.refl _ _).setCell (by simp) _
  have hta := ht.fr FA (by simp)
  have hoa := ho.fr FA (by simp)
  have C := Lib.hid (clone_any vt s.theirs wa b hta (by omega))
  have hc := hp.cell
  have hz := hp.free
  have ca := PA.cell
  have za := PA.free
  simp only [SS.cells] at hc ca
  have hlt := hp.lt
  have hla := PA.lt
  replace hp := Lib.hid hp; replace PA := Lib.hid PA; replace FA := Lib.hid FA; replace hta := Lib.hid hta; replace hoa := Lib.hid hoa; replace ho := Lib.hid ho; replace ht := Lib.hid ht
  go_enter Try.func38, Try.ntmps38
  go_wp2_with fail
  refine C.out.mono ?_
  rintro e w2 ⟨v2, bo2, rfl, hR, hb, f2⟩
  obtain ⟨v', w4, bo', hrun, hR4, hb4, hF4⟩ := hR.one (by omega) s.m
  have F24 : Fr [] wa w4 := f2.step hF4 (fun x hx => .inr (hb x (by simpa using hx)))
  have P4 := F24.pt PA.out (by simp)
  have z4 := P4.free
  have c4 := P4.cell
  simp only [SS.cells] at c4
  obtain ⟨o4, k4, rfl⟩ := hR4.len
  have hnb : ∀ z, bo' = some z → z ∉ X := fun z hz hm => by
    have hA := hta.out.1.2 z hm
    rcases hb4 with h | ⟨y, h, hy⟩
    · rw [h] at hz; have := hb z hz; omega
    · rw [h] at hz; cases hz; have := f2.size; omega
  have FS : Fr [b] w4 (w4.setCell ⟨b, 7, none⟩ (.slice o4 (s.theirs ++ [s.m]).length k4)) := (Fr.refl _ _).setCell (by simp) _
  have IN := (hR4.fr FS (fun z hz => by have h5 := hnb z hz; simp only [List.mem_singleton]; exact fun e => h5 (e ▸ hta.out.1.1))).ir ((hta.out.1.fr F24).fr FS) hnb
  have FIN : SM X (w4.setCell ⟨b, 7, none⟩ (.slice o4 (s.theirs ++ [s.m]).length k4)) b { s with m := s.m + 1, theirs := s.theirs ++ [s.m] } ∧ Fr [b] w (w4.setCell ⟨b, 7, none⟩ (.slice o4 (s.theirs ++ [s.m]).length k4)) :=
    ⟨⟨_, _, P4.set' rfl, (hoa.out.fr F24 (by simp)).fr FS (by simp), IN⟩, FA.out.trans ((F24.mono (by simp)).trans FS)⟩
  simp only [List.length_append, List.length_cons, List.length_nil] at FIN
  replace FIN := Lib.hid FIN; replace hrun := Lib.hid hrun; replace hR4 := Lib.hid hR4; replace hR := Lib.hid hR; replace hb := Lib.hid hb; replace f2 := Lib.hid f2; replace hF4 := Lib.hid hF4; replace F24 := Lib.hid F24; replace P4 := Lib.hid P4; replace FS := Lib.hid FS; replace IN := Lib.hid IN
  clear hb4 hnb
  go_wp2_with (first | (at_builtin; refine wpList_append_run _ rfl _ _ _ rfl rfl rfl hrun.out ?_))
  go_ret
  exact ⟨rfl, FIN.out⟩
theorem confirm_any (b : Nat) (s : SS) (n : Int) (w : World) (h : SM X w b s) (hn : s.own.length < 1000000 ∧ s.theirs.length < 1000000) (h0 : 0 ≤ n ∧ n ≤ 999999) :
    Calls Try.prog 41 #[.pointer (some ⟨b, 0, none⟩), .int .i64 n] w fun e w' => e = .returned (.tuple #[]) ∧ SM X w' b (SS.pruned { s with a := n + 1 }) ∧ Fr [b] w w' := by
  obtain ⟨vo, vt, hp, ho, ht⟩ := h
  have w1 : wrap64 (n + 1) = n + 1 := by unfold wrap64; omega
  obtain ⟨wa, hwa⟩ : ∃ x, w.setCell ⟨b, 3, none⟩ (.int .i64 (n + 1)) = x := ⟨_, rfl⟩
  have FA : Fr [b] w wa := by rw [← hwa]; exact (Fr.refl _ _).setCell (by simp) _
  have SA : SM X wa b { s with a := n + 1 } := ⟨vo, vt, by rw [← hwa]; exact hp.set' rfl, ho.fr FA (by simp), ht.fr FA (by simp)⟩
  have C := Lib.hid (prune_any b { s with a := n + 1 } wa SA hn)
  have hc := hp.cell
  have hz := hp.free
  simp only [SS.cells] at hc
  replace hp := Lib.hid hp; replace FA := Lib.hid FA; replace SA := Lib.hid SA; replace ho := Lib.hid ho; replace ht := Lib.hid ht
  go_enter Try.func41, Try.ntmps41
  go_wp2_with fail
  refine C.out.mono ?_
  rintro e w2 ⟨rfl, S2, f2⟩
  have FF := FA.out.trans f2
  go_wp2_with fail
  go_end0
  exact ⟨rfl, S2, FF⟩
end Go.Proofs.Ytjgmlnkbplgloaa
