import Derived.Test.YtjgmlnkbplgloaaS8
namespace Go.Proofs.Ytjgmlnkbplgloaa
open Go.RowKit
set_option linter.unusedVariables false
set_option linter.unusedSimpArgs false
set_option maxHeartbeats 4000000
set_option maxRecDepth 20000
variable {X : List Nat}
def reqS (s : SS) (e : Ev) : SS × List Ev :=
  if e.b = 0 ∧ (e.a < s.r ∨ s.m < e.a) then (s, [⟨0, 9, e.a, 0, 0, ByteArray.empty⟩])
  else if s.wt = true ∧ s.wins e = true then (s, [])
  else ({ s with wt := false, wh := 0, wn := 0, kt := true, kh := e.b, kn := if e.b = 1 then max e.a s.m else e.a }, [⟨0, 5, if e.b = 1 then max e.a s.m else e.a, e.b, 0, ByteArray.empty⟩])
theorem req_any (b : Nat) (s : SS) (e : Ev) (w : World) (h : SM X w b s) (hb : e.b = 0 ∨ e.b = 1 ∨ e.b = 2) (hwh : s.wh = 0 ∨ s.wh = 1 ∨ s.wh = 2) :
    Calls Try.prog 46 #[.pointer (some ⟨b, 0, none⟩), e.val] w (BeR X b w (reqS s e).1 (reqS s e).2) := by
  unfold reqS
  by_cases h1 : e.b = 0 ∧ (e.a < s.r ∨ s.m < e.a)
  · rw [if_pos h1]; exact req_bad b s e w h h1.1 h1.2
  · rw [if_neg h1]
    cases hwt : s.wt
    · rw [if_neg (by simp)]; exact req_free b s e w h hb h1 hwt
    · cases hwin : s.wins e
      · rw [if_neg (by simp)]; exact req_loses b s e w h hb h1 hwt hwh hwin
      · rw [if_pos ⟨rfl, rfl⟩]; exact req_wins b s e w h hb h1 hwt hwh hwin
theorem below_waits (b : Nat) (s : SS) (e : Ev) (w : World) (h : SM X w b s) (hk : e.kind < 5) (hw : s.wt = true) :
    Calls Try.prog 26 #[.pointer (some ⟨b, 0, none⟩), e.val] w (BeR X b w s []) := by
  obtain ⟨way, kind, ea, eb, ec, ed⟩ := e
  dsimp only at hk ⊢
  dsimp only [Ev.val]
  obtain ⟨wb, hwb⟩ : ∃ x, w.alloc (.cells #[.int .i64 way, .int .i64 kind, .int .i64 ea, .int .i64 eb, .int .i64 ec, .string ed] TEv) = x := ⟨_, rfl⟩
  have PB := Pt.newA w TEv #[.int .i64 way, .int .i64 kind, .int .i64 ea, .int .i64 eb, .int .i64 ec, .string ed]
  rw [hwb] at PB
  have FB : Fr [] w wb := by rw [← hwb]; exact (Fr.refl [] w).alloc _
  obtain ⟨bx, hbx⟩ : ∃ x, w.heap.size = x := ⟨_, rfl⟩
  rw [hbx] at PB
  have cb := PB.cell
  have hS := h.fr FB
  have hlt : b < bx := by have := h.lt; omega
  replace hS := Lib.hid hS; replace PB := Lib.hid PB; replace FB := Lib.hid FB
  clear h
  go_enter Try.func26, Try.ntmps26
  go_wp2_with fail
  refine (told_any 9 ea 0 wb).mono ?_
  rintro e w1 ⟨⟨v1, rfl, hv1⟩, f1⟩
  obtain ⟨vo, vt, hp, ho, ht⟩ := hS.out.fr f1
  have hS1 := Lib.hid (hS.out.fr f1)
  have PB1 := f1.pt PB.out (by simp)
  have cs := hp.cell
  have c1 := PB1.cell
  simp only [SS.cells, hw] at cs
  have F1 : Fr [] w w1 := FB.out.trans f1
  have V1 : ∀ k, EvRes w.heap.size (w1.drewN k) v1 [⟨0, 9, ea, 0, 0, ByteArray.empty⟩] := fun k => by
    rcases hv1 with h | ⟨C, e, h1, h2, h3, h4⟩
    · exact .inl h
    · exact .inr ⟨C, e, h1, h2, ((Fr.refl [] w1).drewN k).pt h3 (by simp), Nat.le_trans FB.out.size h4⟩
  replace hp := Lib.hid hp; replace ho := Lib.hid ho; replace ht := Lib.hid ht; replace PB1 := Lib.hid PB1; replace f1 := Lib.hid f1; replace F1 := Lib.hid F1; replace V1 := Lib.hid V1
  clear hv1 cb
  go_wp2_with fail
  go_ret
  exact ⟨⟨_, rfl, .inl ⟨rfl, rfl⟩⟩, hS1.out, F1.out.mono (by simp)⟩
theorem below_bad1 (b : Nat) (s : SS) (e : Ev) (w : World) (h : SM X w b s) (hk : e.kind = 1) (hw : s.wt = false) (hx : e.a ≠ s.m ∨ s.major ≠ 0 ∨ 999999 ≤ s.m) :
    Calls Try.prog 26 #[.pointer (some ⟨b, 0, none⟩), e.val] w (BeR X b w s [⟨0, 9, e.a, 0, 0, ByteArray.empty⟩]) := by
  obtain ⟨way, kind, ea, eb, ec, ed⟩ := e
  dsimp only at hk hx ⊢
  subst hk
  dsimp only [Ev.val]
  obtain ⟨wb, hwb⟩ : ∃ x, w.alloc (.cells #[.int .i64 way, .int .i64 1, .int .i64 ea, .int .i64 eb, .int .i64 ec, .string ed] TEv) = x := ⟨_, rfl⟩
  have PB := Pt.newA w TEv #[.int .i64 way, .int .i64 1, .int .i64 ea, .int .i64 eb, .int .i64 ec, .string ed]
  rw [hwb] at PB
  have FB : Fr [] w wb := by rw [← hwb]; exact (Fr.refl [] w).alloc _
  obtain ⟨bx, hbx⟩ : ∃ x, w.heap.size = x := ⟨_, rfl⟩
  rw [hbx] at PB
  have cb := PB.cell
  have hS := h.fr FB
  have hlt : b < bx := by have := h.lt; omega
  replace hS := Lib.hid hS; replace PB := Lib.hid PB; replace FB := Lib.hid FB
  clear h
  rcases (by omega : ea ≠ s.m ∨ (ea = s.m ∧ s.major ≠ 0) ∨ (ea = s.m ∧ s.major = 0 ∧ 999999 ≤ s.m)) with h1 | ⟨rfl, h2⟩ | ⟨rfl, h2, h3⟩
  · have h1b : (ea != s.m) = true := by simpa using h1
    clear hx
    go_enter Try.func26, Try.ntmps26
    go_wp2_with fail
    refine (told_any 9 ea 0 wb).mono ?_
    rintro e w1 ⟨⟨v1, rfl, hv1⟩, f1⟩
    obtain ⟨vo, vt, hp, ho, ht⟩ := hS.out.fr f1
    have hS1 := Lib.hid (hS.out.fr f1)
    have PB1 := f1.pt PB.out (by simp)
    have cs := hp.cell
    have c1 := PB1.cell
    simp only [SS.cells, hw] at cs
    have F1 : Fr [] w w1 := FB.out.trans f1
    have V1 : ∀ k, EvRes w.heap.size (w1.drewN k) v1 [⟨0, 9, ea, 0, 0, ByteArray.empty⟩] := fun k => by
      rcases hv1 with h | ⟨C, e, h1, h2, h3, h4⟩
      · exact .inl h
      · exact .inr ⟨C, e, h1, h2, ((Fr.refl [] w1).drewN k).pt h3 (by simp), Nat.le_trans FB.out.size h4⟩
    replace hp := Lib.hid hp; replace ho := Lib.hid ho; replace ht := Lib.hid ht; replace PB1 := Lib.hid PB1; replace f1 := Lib.hid f1; replace F1 := Lib.hid F1; replace V1 := Lib.hid V1
    clear hv1 cb
    go_wp2_with fail
    go_quiet (fail)
    go_wp2_with fail
    go_ret
    exact ⟨⟨_, rfl, V1.out nq⟩, hS1.out.fr ((Fr.refl [] w1).drewN nq), (F1.out.drewN nq).mono (by simp)⟩
  · have h1b : (s.m != s.m) = false := by simp
    have h2b : (s.major != 0) = true := by simpa using h2
    clear hx
    go_enter Try.func26, Try.ntmps26
    go_wp2_with fail
    refine (told_any 9 s.m 0 wb).mono ?_
    rintro e w1 ⟨⟨v1, rfl, hv1⟩, f1⟩
    obtain ⟨vo, vt, hp, ho, ht⟩ := hS.out.fr f1
    have hS1 := Lib.hid (hS.out.fr f1)
    have PB1 := f1.pt PB.out (by simp)
    have cs := hp.cell
    have c1 := PB1.cell
    simp only [SS.cells, hw] at cs
    have F1 : Fr [] w w1 := FB.out.trans f1
    have V1 : ∀ k, EvRes w.heap.size (w1.drewN k) v1 [⟨0, 9, s.m, 0, 0, ByteArray.empty⟩] := fun k => by
      rcases hv1 with h | ⟨C, e, h1, h2, h3, h4⟩
      · exact .inl h
      · exact .inr ⟨C, e, h1, h2, ((Fr.refl [] w1).drewN k).pt h3 (by simp), Nat.le_trans FB.out.size h4⟩
    replace hp := Lib.hid hp; replace ho := Lib.hid ho; replace ht := Lib.hid ht; replace PB1 := Lib.hid PB1; replace f1 := Lib.hid f1; replace F1 := Lib.hid F1; replace V1 := Lib.hid V1
    clear hv1 cb
    go_wp2_with fail
    go_quiet (fail)
    go_wp2_with fail
    go_ret
    exact ⟨⟨_, rfl, V1.out nq⟩, hS1.out.fr ((Fr.refl [] w1).drewN nq), (F1.out.drewN nq).mono (by simp)⟩
  · have h1b : (s.m != s.m) = false := by simp
    have h3b : decide (999999 ≤ s.m) = true := decide_eq_true h3
    clear hx
    go_enter Try.func26, Try.ntmps26
    go_wp2_with fail
    refine (told_any 9 s.m 0 wb).mono ?_
    rintro e w1 ⟨⟨v1, rfl, hv1⟩, f1⟩
    obtain ⟨vo, vt, hp, ho, ht⟩ := hS.out.fr f1
    have hS1 := Lib.hid (hS.out.fr f1)
    have PB1 := f1.pt PB.out (by simp)
    have cs := hp.cell
    have c1 := PB1.cell
    simp only [SS.cells, hw, h2] at cs
    have F1 : Fr [] w w1 := FB.out.trans f1
    have V1 : ∀ k, EvRes w.heap.size (w1.drewN k) v1 [⟨0, 9, s.m, 0, 0, ByteArray.empty⟩] := fun k => by
      rcases hv1 with h | ⟨C, e, h1, h2, h3, h4⟩
      · exact .inl h
      · exact .inr ⟨C, e, h1, h2, ((Fr.refl [] w1).drewN k).pt h3 (by simp), Nat.le_trans FB.out.size h4⟩
    replace hp := Lib.hid hp; replace ho := Lib.hid ho; replace ht := Lib.hid ht; replace PB1 := Lib.hid PB1; replace f1 := Lib.hid f1; replace F1 := Lib.hid F1; replace V1 := Lib.hid V1
    clear hv1 cb
    go_wp2_with fail
    go_quiet (fail)
    go_wp2_with fail
    go_ret
    exact ⟨⟨_, rfl, V1.out nq⟩, hS1.out.fr ((Fr.refl [] w1).drewN nq), (F1.out.drewN nq).mono (by simp)⟩
theorem below_bad3 (b : Nat) (s : SS) (e : Ev) (w : World) (h : SM X w b s) (hk : e.kind = 3) (hw : s.wt = false) (hx : e.a ≠ s.m ∨ s.major ≠ 0 ∨ 999999 ≤ s.m) :
    Calls Try.prog 26 #[.pointer (some ⟨b, 0, none⟩), e.val] w (BeR X b w s [⟨0, 9, e.a, 0, 0, ByteArray.empty⟩]) := by
  obtain ⟨way, kind, ea, eb, ec, ed⟩ := e
  dsimp only at hk hx ⊢
  subst hk
  dsimp only [Ev.val]
  obtain ⟨wb, hwb⟩ : ∃ x, w.alloc (.cells #[.int .i64 way, .int .i64 3, .int .i64 ea, .int .i64 eb, .int .i64 ec, .string ed] TEv) = x := ⟨_, rfl⟩
  have PB := Pt.newA w TEv #[.int .i64 way, .int .i64 3, .int .i64 ea, .int .i64 eb, .int .i64 ec, .string ed]
  rw [hwb] at PB
  have FB : Fr [] w wb := by rw [← hwb]; exact (Fr.refl [] w).alloc _
  obtain ⟨bx, hbx⟩ : ∃ x, w.heap.size = x := ⟨_, rfl⟩
  rw [hbx] at PB
  have cb := PB.cell
  have hS := h.fr FB
  have hlt : b < bx := by have := h.lt; omega
  replace hS := Lib.hid hS; replace PB := Lib.hid PB; replace FB := Lib.hid FB
  clear h
  rcases (by omega : ea ≠ s.m ∨ (ea = s.m ∧ s.major ≠ 0) ∨ (ea = s.m ∧ s.major = 0 ∧ 999999 ≤ s.m)) with h1 | ⟨rfl, h2⟩ | ⟨rfl, h2, h3⟩
  · have h1b : (ea != s.m) = true := by simpa using h1
    clear hx
    go_enter Try.func26, Try.ntmps26
    go_wp2_with fail
    refine (told_any 9 ea 0 wb).mono ?_
    rintro e w1 ⟨⟨v1, rfl, hv1⟩, f1⟩
    obtain ⟨vo, vt, hp, ho, ht⟩ := hS.out.fr f1
    have hS1 := Lib.hid (hS.out.fr f1)
    have PB1 := f1.pt PB.out (by simp)
    have cs := hp.cell
    have c1 := PB1.cell
    simp only [SS.cells, hw] at cs
    have F1 : Fr [] w w1 := FB.out.trans f1
    have V1 : ∀ k, EvRes w.heap.size (w1.drewN k) v1 [⟨0, 9, ea, 0, 0, ByteArray.empty⟩] := fun k => by
      rcases hv1 with h | ⟨C, e, h1, h2, h3, h4⟩
      · exact .inl h
      · exact .inr ⟨C, e, h1, h2, ((Fr.refl [] w1).drewN k).pt h3 (by simp), Nat.le_trans FB.out.size h4⟩
    replace hp := Lib.hid hp; replace ho := Lib.hid ho; replace ht := Lib.hid ht; replace PB1 := Lib.hid PB1; replace f1 := Lib.hid f1; replace F1 := Lib.hid F1; replace V1 := Lib.hid V1
    clear hv1 cb
    go_wp2_with fail
    go_quiet (fail)
    go_wp2_with fail
    go_ret
    exact ⟨⟨_, rfl, V1.out nq⟩, hS1.out.fr ((Fr.refl [] w1).drewN nq), (F1.out.drewN nq).mono (by simp)⟩
  · have h1b : (s.m != s.m) = false := by simp
    have h2b : (s.major != 0) = true := by simpa using h2
    clear hx
    go_enter Try.func26, Try.ntmps26
    go_wp2_with fail
    refine (told_any 9 s.m 0 wb).mono ?_
    rintro e w1 ⟨⟨v1, rfl, hv1⟩, f1⟩
    obtain ⟨vo, vt, hp, ho, ht⟩ := hS.out.fr f1
    have hS1 := Lib.hid (hS.out.fr f1)
    have PB1 := f1.pt PB.out (by simp)
    have cs := hp.cell
    have c1 := PB1.cell
    simp only [SS.cells, hw] at cs
    have F1 : Fr [] w w1 := FB.out.trans f1
    have V1 : ∀ k, EvRes w.heap.size (w1.drewN k) v1 [⟨0, 9, s.m, 0, 0, ByteArray.empty⟩] := fun k => by
      rcases hv1 with h | ⟨C, e, h1, h2, h3, h4⟩
      · exact .inl h
      · exact .inr ⟨C, e, h1, h2, ((Fr.refl [] w1).drewN k).pt h3 (by simp), Nat.le_trans FB.out.size h4⟩
    replace hp := Lib.hid hp; replace ho := Lib.hid ho; replace ht := Lib.hid ht; replace PB1 := Lib.hid PB1; replace f1 := Lib.hid f1; replace F1 := Lib.hid F1; replace V1 := Lib.hid V1
    clear hv1 cb
    go_wp2_with fail
    go_quiet (fail)
    go_wp2_with fail
    go_ret
    exact ⟨⟨_, rfl, V1.out nq⟩, hS1.out.fr ((Fr.refl [] w1).drewN nq), (F1.out.drewN nq).mono (by simp)⟩
  · have h1b : (s.m != s.m) = false := by simp
    have h3b : decide (999999 ≤ s.m) = true := decide_eq_true h3
    clear hx
    go_enter Try.func26, Try.ntmps26
    go_wp2_with fail
    refine (told_any 9 s.m 0 wb).mono ?_
    rintro e w1 ⟨⟨v1, rfl, hv1⟩, f1⟩
    obtain ⟨vo, vt, hp, ho, ht⟩ := hS.out.fr f1
    have hS1 := Lib.hid (hS.out.fr f1)
    have PB1 := f1.pt PB.out (by simp)
    have cs := hp.cell
    have c1 := PB1.cell
    simp only [SS.cells, hw, h2] at cs
    have F1 : Fr [] w w1 := FB.out.trans f1
    have V1 : ∀ k, EvRes w.heap.size (w1.drewN k) v1 [⟨0, 9, s.m, 0, 0, ByteArray.empty⟩] := fun k => by
      rcases hv1 with h | ⟨C, e, h1, h2, h3, h4⟩
      · exact .inl h
      · exact .inr ⟨C, e, h1, h2, ((Fr.refl [] w1).drewN k).pt h3 (by simp), Nat.le_trans FB.out.size h4⟩
    replace hp := Lib.hid hp; replace ho := Lib.hid ho; replace ht := Lib.hid ht; replace PB1 := Lib.hid PB1; replace f1 := Lib.hid f1; replace F1 := Lib.hid F1; replace V1 := Lib.hid V1
    clear hv1 cb
    go_wp2_with fail
    go_quiet (fail)
    go_wp2_with fail
    go_ret
    exact ⟨⟨_, rfl, V1.out nq⟩, hS1.out.fr ((Fr.refl [] w1).drewN nq), (F1.out.drewN nq).mono (by simp)⟩
end Go.Proofs.Ytjgmlnkbplgloaa
