import Derived.Test.YtjgmlnkbplgloaaS9
namespace Go.Proofs.Ytjgmlnkbplgloaa
open Go.RowKit
set_option linter.unusedVariables false
set_option linter.unusedSimpArgs false
set_option maxHeartbeats 4000000
set_option maxRecDepth 20000
variable {X : List Nat}
theorem below_bad2 (b : Nat) (s : SS) (e : Ev) (w : World) (h : SM X w b s) (hk : e.kind = 2) (hw : s.wt = false) (hn : s.own.length < 1000000 ∧ s.theirs.length < 1000000) (hmem : e.a ∉ s.own) :
    Calls Try.prog 26 #[.pointer (some ⟨b, 0, none⟩), e.val] w (BeR X b w s [⟨0, 9, e.a, 0, 0, ByteArray.empty⟩]) := by
  obtain ⟨way, kind, ea, eb, ec, ed⟩ := e
  dsimp only at hk hmem ⊢
  subst hk
  dsimp only [Ev.val]
  obtain ⟨wb, hwb⟩ : ∃ x, w.alloc (.cells #[.int .i64 way, .int .i64 2, .int .i64 ea, .int .i64 eb, .int .i64 ec, .string ed] TEv) = x := ⟨_, rfl⟩
  have PB := Pt.newA w TEv #[.int .i64 way, .int .i64 2, .int .i64 ea, .int .i64 eb, .int .i64 ec, .string ed]
  rw [hwb] at PB
  have FB : Fr [] w wb := by rw [← hwb]; exact (Fr.refl [] w).alloc _
  obtain ⟨bx, hbx⟩ : ∃ x, w.heap.size = x := ⟨_, rfl⟩
  rw [hbx] at PB
  have cb := PB.cell
  have hS := h.fr FB
  have hlt : b < bx := by have := h.lt; omega
  replace hS := Lib.hid hS; replace PB := Lib.hid PB; replace FB := Lib.hid FB
  clear h
  go_enter Try.func26, Try.ntmps26
  go_wp2_with fail
  refine (told_any 9 ea 0 wb).mono ?_
  rintro e w1 ⟨⟨v1, rfl, hv1⟩, f1⟩
  obtain ⟨vo, vt, hp, ho, ht⟩ := hS.out.fr f1
  have hS1 := Lib.hid (hS.out.fr f1)
  have PB1 := f1.pt PB.out (by simp)
  have cs := hp.cell
  have c1 := PB1.cell
  simp only [SS.cells, hw] at cs
  have F1 : Fr [] w w1 := FB.out.trans f1
  have V1 : ∀ k, EvRes w.heap.size (w1.drewN k) v1 [⟨0, 9, ea, 0, 0, ByteArray.empty⟩] := fun k => by
    rcases hv1 with h | ⟨C, e, h1, h2, h3, h4⟩
    · exact .inl h
    · exact .inr ⟨C, e, h1, h2, ((Fr.refl [] w1).drewN k).pt h3 (by simp), Nat.le_trans FB.out.size h4⟩
  replace hp := Lib.hid hp; replace ho := Lib.hid ho; replace ht := Lib.hid ht; replace PB1 := Lib.hid PB1; replace f1 := Lib.hid f1; replace F1 := Lib.hid F1; replace V1 := Lib.hid V1
  clear hv1 cb
  go_wp2_with fail
  have CT := Lib.hid (fun k => contains_any vo s.own ea (w1.drewN k) b (ho.out.fr ((Fr.refl [] w1).drewN k) (by simp)) hn.1)
  rw [decide_eq_false hmem] at CT
  go_quiet (first | (go_at_call 40; exact Calls.quiet_of_same ((CT.out _).mono fun _ _ h => ⟨h.1, h.2.symm⟩)))
  go_wp2_with fail
  go_ret
  exact ⟨⟨_, rfl, V1.out nq⟩, hS1.out.fr ((Fr.refl [] w1).drewN nq), (F1.out.drewN nq).mono (by simp)⟩
theorem below_ok2 (b : Nat) (s : SS) (e : Ev) (w : World) (h : SM X w b s) (hk : e.kind = 2) (hw : s.wt = false) (hn : s.own.length < 1000000 ∧ s.theirs.length < 1000000) (h0 : 0 ≤ e.a ∧ e.a ≤ 999999) (hmem : e.a ∈ s.own) :
    Calls Try.prog 26 #[.pointer (some ⟨b, 0, none⟩), e.val] w (BeR X b w (SS.pruned { s with a := e.a + 1 }) [⟨0, 2, e.a, 0, 0, ByteArray.empty⟩]) := by
  obtain ⟨way, kind, ea, eb, ec, ed⟩ := e
  dsimp only at hk hmem h0 ⊢
  subst hk
  dsimp only [Ev.val]
  obtain ⟨wb, hwb⟩ : ∃ x, w.alloc (.cells #[.int .i64 way, .int .i64 2, .int .i64 ea, .int .i64 eb, .int .i64 ec, .string ed] TEv) = x := ⟨_, rfl⟩
  have PB := Pt.newA w TEv #[.int .i64 way, .int .i64 2, .int .i64 ea, .int .i64 eb, .int .i64 ec, .string ed]
  rw [hwb] at PB
  have FB : Fr [] w wb := by rw [← hwb]; exact (Fr.refl [] w).alloc _
  obtain ⟨bx, hbx⟩ : ∃ x, w.heap.size = x := ⟨_, rfl⟩
  rw [hbx] at PB
  have cb := PB.cell
  have hS := h.fr FB
  have hlt : b < bx := by have := h.lt; omega
  replace hS := Lib.hid hS; replace PB := Lib.hid PB; replace FB := Lib.hid FB
  clear h
  go_enter Try.func26, Try.ntmps26
  go_wp2_with fail
  refine (told_any 9 ea 0 wb).mono ?_
  rintro e w1 ⟨⟨v1, rfl, hv1⟩, f1⟩
  obtain ⟨vo, vt, hp, ho, ht⟩ := hS.out.fr f1
  have hS1 := Lib.hid (hS.out.fr f1)
  have PB1 := f1.pt PB.out (by simp)
  have cs := hp.cell
  have c1 := PB1.cell
  simp only [SS.cells, hw] at cs
  have F1 : Fr [] w w1 := FB.out.trans f1
  have V1 : ∀ k, EvRes w.heap.size (w1.drewN k) v1 [⟨0, 9, ea, 0, 0, ByteArray.empty⟩] := fun k => by
    rcases hv1 with h | ⟨C, e, h1, h2, h3, h4⟩
    · exact .inl h
    · exact .inr ⟨C, e, h1, h2, ((Fr.refl [] w1).drewN k).pt h3 (by simp), Nat.le_trans FB.out.size h4⟩
  replace hp := Lib.hid hp; replace ho := Lib.hid ho; replace ht := Lib.hid ht; replace PB1 := Lib.hid PB1; replace f1 := Lib.hid f1; replace F1 := Lib.hid F1; replace V1 := Lib.hid V1
  clear hv1 cb
  go_wp2_with fail
  have CT := Lib.hid (fun k => contains_any vo s.own ea (w1.drewN k) b (ho.out.fr ((Fr.refl [] w1).drewN k) (by simp)) hn.1)
  rw [decide_eq_true hmem] at CT
  go_quiet (first | (go_at_call 40; exact Calls.quiet_of_same ((CT.out _).mono fun _ _ h => ⟨h.1, h.2.symm⟩)))
  have C := Lib.hid (confirm_any b s ea (w1.drewN nq) (hS1.out.fr ((Fr.refl [] w1).drewN nq)) hn h0)
  go_wp2_with fail
  refine C.out.mono ?_
  rintro e w3 ⟨rfl, S3, f3⟩
  have PB3 := f3.pt ((((Fr.refl [] w1).drewN nq)).pt PB1.out (by simp)) (by simp; omega)
  have c3 := PB3.cell
  have FA : Fr [b] w w3 := (((F1.out.drewN nq).mono (ex' := [b]) (by simp))).trans f3
  replace FA := Lib.hid FA; replace PB3 := Lib.hid PB3; replace S3 := Lib.hid S3
  clear c1 cs f3
  go_wp2_with fail
  refine (told_any 2 ea 0 w3).mono ?_
  rintro e w4 ⟨⟨v4, rfl, hv4⟩, f4⟩
  have FIN := FA.out.trans (f4.mono (by simp))
  have S4 := S3.out.fr f4
  have V4 := hv4.le FA.out.size
  clear hv4 c3
  go_wp2
  go_ret
  exact ⟨⟨_, rfl, V4⟩, S4, FIN⟩
theorem below_bad4 (b : Nat) (s : SS) (e : Ev) (w : World) (h : SM X w b s) (hk : e.kind = 4) (hw : s.wt = false) (hm : s.major ≠ 1) :
    Calls Try.prog 26 #[.pointer (some ⟨b, 0, none⟩), e.val] w (BeR X b w s [⟨0, 9, e.a, 0, 0, ByteArray.empty⟩]) := by
  obtain ⟨way, kind, ea, eb, ec, ed⟩ := e
  dsimp only at hk ⊢
  subst hk
  dsimp only [Ev.val]
  obtain ⟨wb, hwb⟩ : ∃ x, w.alloc (.cells #[.int .i64 way, .int .i64 4, .int .i64 ea, .int .i64 eb, .int .i64 ec, .string ed] TEv) = x := ⟨_, rfl⟩
  have PB := Pt.newA w TEv #[.int .i64 way, .int .i64 4, .int .i64 ea, .int .i64 eb, .int .i64 ec, .string ed]
  rw [hwb] at PB
  have FB : Fr [] w wb := by rw [← hwb]; exact (Fr.refl [] w).alloc _
  obtain ⟨bx, hbx⟩ : ∃ x, w.heap.size = x := ⟨_, rfl⟩
  rw [hbx] at PB
  have cb := PB.cell
  have hS := h.fr FB
  have hlt : b < bx := by have := h.lt; omega
  replace hS := Lib.hid hS; replace PB := Lib.hid PB; replace FB := Lib.hid FB
  clear h
  have h2b : (s.major != 1) = true := by simpa using hm
  go_enter Try.func26, Try.ntmps26
  go_wp2_with fail
  refine (told_any 9 ea 0 wb).mono ?_
  rintro e w1 ⟨⟨v1, rfl, hv1⟩, f1⟩
  obtain ⟨vo, vt, hp, ho, ht⟩ := hS.out.fr f1
  have hS1 := Lib.hid (hS.out.fr f1)
  have PB1 := f1.pt PB.out (by simp)
  have cs := hp.cell
  have c1 := PB1.cell
  simp only [SS.cells, hw] at cs
  have F1 : Fr [] w w1 := FB.out.trans f1
  have V1 : ∀ k, EvRes w.heap.size (w1.drewN k) v1 [⟨0, 9, ea, 0, 0, ByteArray.empty⟩] := fun k => by
    rcases hv1 with h | ⟨C, e, h1, h2, h3, h4⟩
    · exact .inl h
    · exact .inr ⟨C, e, h1, h2, ((Fr.refl [] w1).drewN k).pt h3 (by simp), Nat.le_trans FB.out.size h4⟩
  replace hp := Lib.hid hp; replace ho := Lib.hid ho; replace ht := Lib.hid ht; replace PB1 := Lib.hid PB1; replace f1 := Lib.hid f1; replace F1 := Lib.hid F1; replace V1 := Lib.hid V1
  clear hv1 cb
  go_wp2_with fail
  go_ret
  exact ⟨⟨_, rfl, V1.out 0⟩, hS1.out, F1.out.mono (by simp)⟩
theorem below_ok4 (b : Nat) (s : SS) (e : Ev) (w : World) (h : SM X w b s) (hk : e.kind = 4) (hw : s.wt = false) (hn : s.own.length < 1000000 ∧ s.theirs.length < 1000000) (hm : s.major = 1) :
    Calls Try.prog 26 #[.pointer (some ⟨b, 0, none⟩), e.val] w (BeR X b w s.settled [⟨0, 4, e.a, 0, 0, ByteArray.empty⟩]) := by
  obtain ⟨way, kind, ea, eb, ec, ed⟩ := e
  dsimp only at hk ⊢
  subst hk
  dsimp only [Ev.val]
  obtain ⟨wb, hwb⟩ : ∃ x, w.alloc (.cells #[.int .i64 way, .int .i64 4, .int .i64 ea, .int .i64 eb, .int .i64 ec, .string ed] TEv) = x := ⟨_, rfl⟩
  have PB := Pt.newA w TEv #[.int .i64 way, .int .i64 4, .int .i64 ea, .int .i64 eb, .int .i64 ec, .string ed]
  rw [hwb] at PB
  have FB : Fr [] w wb := by rw [← hwb]; exact (Fr.refl [] w).alloc _
  obtain ⟨bx, hbx⟩ : ∃ x, w.heap.size = x := ⟨_, rfl⟩
  rw [hbx] at PB
  have cb := PB.cell
  have hS := h.fr FB
  have hlt : b < bx := by have := h.lt; omega
  replace hS := Lib.hid hS; replace PB := Lib.hid PB; replace FB := Lib.hid FB
  clear h
  go_enter Try.func26, Try.ntmps26
  go_wp2_with fail
  refine (told_any 9 ea 0 wb).mono ?_
  rintro e w1 ⟨⟨v1, rfl, hv1⟩, f1⟩
  obtain ⟨vo, vt, hp, ho, ht⟩ := hS.out.fr f1
  have hS1 := Lib.hid (hS.out.fr f1)
  have PB1 := f1.pt PB.out (by simp)
  have cs := hp.cell
  have c1 := PB1.cell
  simp only [SS.cells, hw, hm] at cs
  have F1 : Fr [] w w1 := FB.out.trans f1
  have V1 : ∀ k, EvRes w.heap.size (w1.drewN k) v1 [⟨0, 9, ea, 0, 0, ByteArray.empty⟩] := fun k => by
    rcases hv1 with h | ⟨C, e, h1, h2, h3, h4⟩
    · exact .inl h
    · exact .inr ⟨C, e, h1, h2, ((Fr.refl [] w1).drewN k).pt h3 (by simp), Nat.le_trans FB.out.size h4⟩
  replace hp := Lib.hid hp; replace ho := Lib.hid ho; replace ht := Lib.hid ht; replace PB1 := Lib.hid PB1; replace f1 := Lib.hid f1; replace F1 := Lib.hid F1; replace V1 := Lib.hid V1
  clear hv1 cb
  have C := Lib.hid (settle_any b s w1 hS1.out hn)
  go_wp2_with fail
  refine C.out.mono ?_
  rintro e w3 ⟨rfl, S3, f3⟩
  have PB3 := f3.pt (PB1.out) (by simp; omega)
  have c3 := PB3.cell
  have FA : Fr [b] w w3 := ((F1.out.mono (ex' := [b]) (by simp))).trans f3
  replace FA := Lib.hid FA; replace PB3 := Lib.hid PB3; replace S3 := Lib.hid S3
  clear c1 cs f3
  go_wp2_with fail
  refine (told_any 4 ea 0 w3).mono ?_
  rintro e w4 ⟨⟨v4, rfl, hv4⟩, f4⟩
  have FIN := FA.out.trans (f4.mono (by simp))
  have S4 := S3.out.fr f4
  have V4 := hv4.le FA.out.size
  clear hv4 c3
  go_wp2
  go_ret
  exact ⟨⟨_, rfl, V4⟩, S4, FIN⟩
theorem below_5 (b : Nat) (s : SS) (e : Ev) (w : World) (h : SM X w b s) (hk : e.kind = 5) (hb : e.b = 0 ∨ e.b = 1 ∨ e.b = 2) (hwh : s.wh = 0 ∨ s.wh = 1 ∨ s.wh = 2) :
    Calls Try.prog 26 #[.pointer (some ⟨b, 0, none⟩), e.val] w (BeR X b w (reqS s e).1 (reqS s e).2) := by
  obtain ⟨way, kind, ea, eb, ec, ed⟩ := e
  dsimp only at hk hb ⊢
  subst hk
  dsimp only [Ev.val]
  obtain ⟨wb, hwb⟩ : ∃ x, w.alloc (.cells #[.int .i64 way, .int .i64 5, .int .i64 ea, .int .i64 eb, .int .i64 ec, .string ed] TEv) = x := ⟨_, rfl⟩
  have PB := Pt.newA w TEv #[.int .i64 way, .int .i64 5, .int .i64 ea, .int .i64 eb, .int .i64 ec, .string ed]
  rw [hwb] at PB
  have FB : Fr [] w wb := by rw [← hwb]; exact (Fr.refl [] w).alloc _
  obtain ⟨bx, hbx⟩ : ∃ x, w.heap.size = x := ⟨_, rfl⟩
  rw [hbx] at PB
  have cb := PB.cell
  have hS := h.fr FB
  have hlt : b < bx := by have := h.lt; omega
  replace hS := Lib.hid hS; replace PB := Lib.hid PB; replace FB := Lib.hid FB
  clear h
  have C := Lib.hid (fun w h => req_any (X := X) b s ⟨way, 5, ea, eb, ec, ed⟩ w h hb hwh)
  dsimp only [Ev.val] at C
  obtain ⟨R, hR⟩ : ∃ R, reqS s ⟨way, 5, ea, eb, ec, ed⟩ = R := ⟨_, rfl⟩
  rw [hR] at C
  rw [hR]
  cases hwt : s.wt
  all_goals
    go_enter Try.func26, Try.ntmps26
    go_wp2_with fail
    refine (told_any 9 ea 0 wb).mono ?_
    rintro e w1 ⟨⟨v1, rfl, hv1⟩, f1⟩
    obtain ⟨vo, vt, hp, ho, ht⟩ := hS.out.fr f1
    have hS1 := Lib.hid (hS.out.fr f1)
    have PB1 := f1.pt PB.out (by simp)
    have cs := hp.cell
    have c1 := PB1.cell
    simp only [SS.cells, hwt] at cs
    have F1 : Fr [] w w1 := FB.out.trans f1
    have V1 : ∀ k, EvRes w.heap.size (w1.drewN k) v1 [⟨0, 9, ea, 0, 0, ByteArray.empty⟩] := fun k => by
      rcases hv1 with h | ⟨C, e, h1, h2, h3, h4⟩
      · exact .inl h
      · exact .inr ⟨C, e, h1, h2, ((Fr.refl [] w1).drewN k).pt h3 (by simp), Nat.le_trans FB.out.size h4⟩
    replace hp := Lib.hid hp; replace ho := Lib.hid ho; replace ht := Lib.hid ht; replace PB1 := Lib.hid PB1; replace f1 := Lib.hid f1; replace F1 := Lib.hid F1; replace V1 := Lib.hid V1
    clear hv1 cb
    go_wp2_with fail
    refine (C.out w1 hS1.out).mono ?_
    rintro e w3 ⟨⟨v3, rfl, hv3⟩, S3, f3⟩
    have F3 := (F1.out.mono (by simp)).trans f3
    have V3 := hv3.le F1.out.size
    clear c1 cs f3 hv3
    go_wp2
    go_ret
    exact ⟨⟨_, rfl, V3⟩, S3, F3⟩
theorem below_bad7 (b : Nat) (s : SS) (e : Ev) (w : World) (h : SM X w b s) (hk : e.kind = 7) (hw : s.wt = false) :
    Calls Try.prog 26 #[.pointer (some ⟨b, 0, none⟩), e.val] w (BeR X b w s [⟨0, 9, e.a, 0, 0, ByteArray.empty⟩]) := by
  obtain ⟨way, kind, ea, eb, ec, ed⟩ := e
  dsimp only at hk ⊢
  subst hk
  dsimp only [Ev.val]
  obtain ⟨wb, hwb⟩ : ∃ x, w.alloc (.cells #[.int .i64 way, .int .i64 7, .int .i64 ea, .int .i64 eb, .int .i64 ec, .string ed] TEv) = x := ⟨_, rfl⟩
  have PB := Pt.newA w TEv #[.int .i64 way, .int .i64 7, .int .i64 ea, .int .i64 eb, .int .i64 ec, .string ed]
  rw [hwb] at PB
  have FB : Fr [] w wb := by rw [← hwb]; exact (Fr.refl [] w).alloc _
  obtain ⟨bx, hbx⟩ : ∃ x, w.heap.size = x := ⟨_, rfl⟩
  rw [hbx] at PB
  have cb := PB.cell
  have hS := h.fr FB
  have hlt : b < bx := by have := h.lt; omega
  replace hS := Lib.hid hS; replace PB := Lib.hid PB; replace FB := Lib.hid FB
  clear h
  go_enter Try.func26, Try.ntmps26
  go_wp2_with fail
  refine (told_any 9 ea 0 wb).mono ?_
  rintro e w1 ⟨⟨v1, rfl, hv1⟩, f1⟩
  obtain ⟨vo, vt, hp, ho, ht⟩ := hS.out.fr f1
  have hS1 := Lib.hid (hS.out.fr f1)
  have PB1 := f1.pt PB.out (by simp)
  have cs := hp.cell
  have c1 := PB1.cell
  simp only [SS.cells, hw] at cs
  have F1 : Fr [] w w1 := FB.out.trans f1
  have V1 : ∀ k, EvRes w.heap.size (w1.drewN k) v1 [⟨0, 9, ea, 0, 0, ByteArray.empty⟩] := fun k => by
    rcases hv1 with h | ⟨C, e, h1, h2, h3, h4⟩
    · exact .inl h
    · exact .inr ⟨C, e, h1, h2, ((Fr.refl [] w1).drewN k).pt h3 (by simp), Nat.le_trans FB.out.size h4⟩
  replace hp := Lib.hid hp; replace ho := Lib.hid ho; replace ht := Lib.hid ht; replace PB1 := Lib.hid PB1; replace f1 := Lib.hid f1; replace F1 := Lib.hid F1; replace V1 := Lib.hid V1
  clear hv1 cb
  go_wp2_with fail
  go_ret
  exact ⟨⟨_, rfl, V1.out 0⟩, hS1.out, F1.out.mono (by simp)⟩
theorem below_ok7 (b : Nat) (s : SS) (e : Ev) (w : World) (h : SM X w b s) (hk : e.kind = 7) (hw : s.wt = true) (hn : s.own.length < 1000000 ∧ s.theirs.length < 1000000) :
    Calls Try.prog 26 #[.pointer (some ⟨b, 0, none⟩), e.val] w (BeR X b w (s.anew e.b e.a) [⟨0, 7, e.a, e.b, 0, ByteArray.empty⟩]) := by
  obtain ⟨way, kind, ea, eb, ec, ed⟩ := e
  dsimp only at hk ⊢
  subst hk
  dsimp only [Ev.val]
  obtain ⟨wb, hwb⟩ : ∃ x, w.alloc (.cells #[.int .i64 way, .int .i64 7, .int .i64 ea, .int .i64 eb, .int .i64 ec, .string ed] TEv) = x := ⟨_, rfl⟩
  have PB := Pt.newA w TEv #[.int .i64 way, .int .i64 7, .int .i64 ea, .int .i64 eb, .int .i64 ec, .string ed]
  rw [hwb] at PB
  have FB : Fr [] w wb := by rw [← hwb]; exact (Fr.refl [] w).alloc _
  obtain ⟨bx, hbx⟩ : ∃ x, w.heap.size = x := ⟨_, rfl⟩
  rw [hbx] at PB
  have cb := PB.cell
  have hS := h.fr FB
  have hlt : b < bx := by have := h.lt; omega
  replace hS := Lib.hid hS; replace PB := Lib.hid PB; replace FB := Lib.hid FB
  clear h
  go_enter Try.func26, Try.ntmps26
  go_wp2_with fail
  refine (told_any 9 ea 0 wb).mono ?_
  rintro e w1 ⟨⟨v1, rfl, hv1⟩, f1⟩
  obtain ⟨vo, vt, hp, ho, ht⟩ := hS.out.fr f1
  have hS1 := Lib.hid (hS.out.fr f1)
  have PB1 := f1.pt PB.out (by simp)
  have cs := hp.cell
  have c1 := PB1.cell
  simp only [SS.cells, hw] at cs
  have F1 : Fr [] w w1 := FB.out.trans f1
  have V1 : ∀ k, EvRes w.heap.size (w1.drewN k) v1 [⟨0, 9, ea, 0, 0, ByteArray.empty⟩] := fun k => by
    rcases hv1 with h | ⟨C, e, h1, h2, h3, h4⟩
    · exact .inl h
    · exact .inr ⟨C, e, h1, h2, ((Fr.refl [] w1).drewN k).pt h3 (by simp), Nat.le_trans FB.out.size h4⟩
  replace hp := Lib.hid hp; replace ho := Lib.hid ho; replace ht := Lib.hid ht; replace PB1 := Lib.hid PB1; replace f1 := Lib.hid f1; replace F1 := Lib.hid F1; replace V1 := Lib.hid V1
  clear hv1 cb
  have C := Lib.hid (anew_any b s eb ea w1 hS1.out hn)
  go_wp2_with fail
  refine C.out.mono ?_
  rintro e w3 ⟨rfl, S3, f3⟩
  have PB3 := f3.pt (PB1.out) (by simp; omega)
  have c3 := PB3.cell
  have FA : Fr [b] w w3 := ((F1.out.mono (ex' := [b]) (by simp))).trans f3
  replace FA := Lib.hid FA; replace PB3 := Lib.hid PB3; replace S3 := Lib.hid S3
  clear c1 cs f3
  go_wp2_with fail
  refine (told_any 7 ea eb w3).mono ?_
  rintro e w4 ⟨⟨v4, rfl, hv4⟩, f4⟩
  have FIN := FA.out.trans (f4.mono (by simp))
  have S4 := S3.out.fr f4
  have V4 := hv4.le FA.out.size
  clear hv4 c3
  go_wp2
  go_ret
  exact ⟨⟨_, rfl, V4⟩, S4, FIN⟩
end Go.Proofs.Ytjgmlnkbplgloaa
