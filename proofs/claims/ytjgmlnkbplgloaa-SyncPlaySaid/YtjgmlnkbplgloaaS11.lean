import Derived.Test.YtjgmlnkbplgloaaS10
namespace Go.Proofs.Ytjgmlnkbplgloaa
open Go.RowKit
set_option linter.unusedVariables false
set_option linter.unusedSimpArgs false
set_option maxHeartbeats 4000000
set_option maxRecDepth 20000
variable {X : List Nat}
theorem user_waits (b : Nat) (s : SS) (e : Ev) (w : World) (h : SM X w b s) (hw : s.wt = true) :
    Calls Try.prog 25 #[.pointer (some ⟨b, 0, none⟩), e.val] w (OnR X b w s [] 8) := by
  obtain ⟨way, kind, ea, eb, ec, ed⟩ := e
  try dsimp only at ⊢
  dsimp only [Ev.val]
  obtain ⟨wb, hwb⟩ : ∃ x, w.alloc (.cells #[.int .i64 way, .int .i64 kind, .int .i64 ea, .int .i64 eb, .int .i64 ec, .string ed] TEv) = x := ⟨_, rfl⟩
  have PB := Pt.newA w TEv #[.int .i64 way, .int .i64 kind, .int .i64 ea, .int .i64 eb, .int .i64 ec, .string ed]
  rw [hwb] at PB
  have FB : Fr [] w wb := by rw [← hwb]; exact (Fr.refl [] w).alloc _
  obtain ⟨bx, hbx⟩ : ∃ x, w.heap.size = x := ⟨_, rfl⟩
  rw [hbx] at PB
  have cb := PB.cell
  have hS := h.fr FB
  have hlt : b < bx := by have := h.lt; omega
  obtain ⟨vo, vt, hp, ho, ht⟩ := h.fr FB
  have cs := hp.cell
  replace hS := Lib.hid hS; replace PB := Lib.hid PB; replace FB := Lib.hid FB; replace hp := Lib.hid hp; replace ho := Lib.hid ho; replace ht := Lib.hid ht
  clear h
  simp only [SS.cells, hw] at cs
  go_enter Try.func25, Try.ntmps25
  go_wp2_with fail
  go_ret2
  exact ⟨⟨_, rfl, .inl ⟨rfl, rfl⟩⟩, hS.out, FB.out.mono (by simp)⟩
theorem user_owes (b : Nat) (s : SS) (e : Ev) (w : World) (h : SM X w b s) (hw : s.wt = false) (hk : s.kt = true) (hx : e.kind ≠ 7) :
    Calls Try.prog 25 #[.pointer (some ⟨b, 0, none⟩), e.val] w (OnR X b w s [] 8) := by
  obtain ⟨way, kind, ea, eb, ec, ed⟩ := e
  try dsimp only at hx ⊢
  dsimp only [Ev.val]
  obtain ⟨wb, hwb⟩ : ∃ x, w.alloc (.cells #[.int .i64 way, .int .i64 kind, .int .i64 ea, .int .i64 eb, .int .i64 ec, .string ed] TEv) = x := ⟨_, rfl⟩
  have PB := Pt.newA w TEv #[.int .i64 way, .int .i64 kind, .int .i64 ea, .int .i64 eb, .int .i64 ec, .string ed]
  rw [hwb] at PB
  have FB : Fr [] w wb := by rw [← hwb]; exact (Fr.refl [] w).alloc _
  obtain ⟨bx, hbx⟩ : ∃ x, w.heap.size = x := ⟨_, rfl⟩
  rw [hbx] at PB
  have cb := PB.cell
  have hS := h.fr FB
  have hlt : b < bx := by have := h.lt; omega
  obtain ⟨vo, vt, hp, ho, ht⟩ := h.fr FB
  have cs := hp.cell
  replace hS := Lib.hid hS; replace PB := Lib.hid PB; replace FB := Lib.hid FB; replace hp := Lib.hid hp; replace ho := Lib.hid ho; replace ht := Lib.hid ht
  clear h
  have hxb : (kind != 7) = true := by simpa using hx
  simp only [SS.cells, hw, hk] at cs
  go_enter Try.func25, Try.ntmps25
  go_wp2_with fail
  go_ret2
  exact ⟨⟨_, rfl, .inl ⟨rfl, rfl⟩⟩, hS.out, FB.out.mono (by simp)⟩
theorem user_busy1 (b : Nat) (s : SS) (e : Ev) (w : World) (h : SM X w b s) (hk1 : e.kind = 1) (hw : s.wt = false) (hk : s.kt = false) (hx : s.major ≠ 0) :
    Calls Try.prog 25 #[.pointer (some ⟨b, 0, none⟩), e.val] w (OnR X b w s [] 8) := by
  obtain ⟨way, kind, ea, eb, ec, ed⟩ := e
  try dsimp only at hk1 ⊢
  subst hk1
  dsimp only [Ev.val]
  obtain ⟨wb, hwb⟩ : ∃ x, w.alloc (.cells #[.int .i64 way, .int .i64 1, .int .i64 ea, .int .i64 eb, .int .i64 ec, .string ed] TEv) = x := ⟨_, rfl⟩
  have PB := Pt.newA w TEv #[.int .i64 way, .int .i64 1, .int .i64 ea, .int .i64 eb, .int .i64 ec, .string ed]
  rw [hwb] at PB
  have FB : Fr [] w wb := by rw [← hwb]; exact (Fr.refl [] w).alloc _
  obtain ⟨bx, hbx⟩ : ∃ x, w.heap.size = x := ⟨_, rfl⟩
  rw [hbx] at PB
  have cb := PB.cell
  have hS := h.fr FB
  have hlt : b < bx := by have := h.lt; omega
  obtain ⟨vo, vt, hp, ho, ht⟩ := h.fr FB
  have cs := hp.cell
  replace hS := Lib.hid hS; replace PB := Lib.hid PB; replace FB := Lib.hid FB; replace hp := Lib.hid hp; replace ho := Lib.hid ho; replace ht := Lib.hid ht
  clear h
  have hxb : (s.major != 0) = true := by simpa using hx
  simp only [SS.cells, hw, hk] at cs
  go_enter Try.func25, Try.ntmps25
  go_wp2_with fail
  go_ret2
  exact ⟨⟨_, rfl, .inl ⟨rfl, rfl⟩⟩, hS.out, FB.out.mono (by simp)⟩
theorem user_far1 (b : Nat) (s : SS) (e : Ev) (w : World) (h : SM X w b s) (hk1 : e.kind = 1) (hw : s.wt = false) (hk : s.kt = false) (hx : s.major = 0) (hm : 999999 ≤ s.m) :
    Calls Try.prog 25 #[.pointer (some ⟨b, 0, none⟩), e.val] w (OnR X b w s [] 5) := by
  obtain ⟨way, kind, ea, eb, ec, ed⟩ := e
  try dsimp only at hk1 ⊢
  subst hk1
  dsimp only [Ev.val]
  obtain ⟨wb, hwb⟩ : ∃ x, w.alloc (.cells #[.int .i64 way, .int .i64 1, .int .i64 ea, .int .i64 eb, .int .i64 ec, .string ed] TEv) = x := ⟨_, rfl⟩
  have PB := Pt.newA w TEv #[.int .i64 way, .int .i64 1, .int .i64 ea, .int .i64 eb, .int .i64 ec, .string ed]
  rw [hwb] at PB
  have FB : Fr [] w wb := by rw [← hwb]; exact (Fr.refl [] w).alloc _
  obtain ⟨bx, hbx⟩ : ∃ x, w.heap.size = x := ⟨_, rfl⟩
  rw [hbx] at PB
  have cb := PB.cell
  have hS := h.fr FB
  have hlt : b < bx := by have := h.lt; omega
  obtain ⟨vo, vt, hp, ho, ht⟩ := h.fr FB
  have cs := hp.cell
  replace hS := Lib.hid hS; replace PB := Lib.hid PB; replace FB := Lib.hid FB; replace hp := Lib.hid hp; replace ho := Lib.hid ho; replace ht := Lib.hid ht
  clear h
  have hmb : decide (999999 ≤ s.m) = true := decide_eq_true hm
  simp only [SS.cells, hw, hk, hx] at cs
  go_enter Try.func25, Try.ntmps25
  go_wp2_with fail
  go_ret2
  exact ⟨⟨_, rfl, .inl ⟨rfl, rfl⟩⟩, hS.out, FB.out.mono (by simp)⟩
theorem user_ok1 (b : Nat) (s : SS) (e : Ev) (w : World) (h : SM X w b s) (hk1 : e.kind = 1) (hw : s.wt = false) (hk : s.kt = false) (hx : s.major = 0) (hm : 0 ≤ s.m ∧ s.m < 999999) (hn : s.own.length < 900000) :
    Calls Try.prog 25 #[.pointer (some ⟨b, 0, none⟩), e.val] w (OnR X b w { s with m := s.m + 1, own := s.own ++ [s.m] } [⟨1, 1, s.m, 0, 0, ByteArray.empty⟩] 0) := by
  obtain ⟨way, kind, ea, eb, ec, ed⟩ := e
  try dsimp only at hk1 ⊢
  subst hk1
  dsimp only [Ev.val]
  obtain ⟨wb, hwb⟩ : ∃ x, w.alloc (.cells #[.int .i64 way, .int .i64 1, .int .i64 ea, .int .i64 eb, .int .i64 ec, .string ed] TEv) = x := ⟨_, rfl⟩
  have PB := Pt.newA w TEv #[.int .i64 way, .int .i64 1, .int .i64 ea, .int .i64 eb, .int .i64 ec, .string ed]
  rw [hwb] at PB
  have FB : Fr [] w wb := by rw [← hwb]; exact (Fr.refl [] w).alloc _
  obtain ⟨bx, hbx⟩ : ∃ x, w.heap.size = x := ⟨_, rfl⟩
  rw [hbx] at PB
  have cb := PB.cell
  have hS := h.fr FB
  have hlt : b < bx := by have := h.lt; omega
  obtain ⟨vo, vt, hp, ho, ht⟩ := h.fr FB
  have cs := hp.cell
  replace hS := Lib.hid hS; replace PB := Lib.hid PB; replace FB := Lib.hid FB; replace hp := Lib.hid hp; replace ho := Lib.hid ho; replace ht := Lib.hid ht
  clear h
  have hmb : decide (999999 ≤ s.m) = false := decide_eq_false (by omega)
  have hm3 : ¬ (999999 ≤ s.m) := by omega
  have C := Lib.hid (point_own b s wb.drew hS.out.drew hn hm)
  have hS00 := PB.out.drew.cell 1
  have hSq : ∀ w', Fr [b] wb.drew w' → w'.cell? ⟨bx, 1, none⟩ = some (.int .i64 1) := fun w' hf => (hf.pt PB.out.drew (by simp; omega)).cell 1
  replace hSq := Lib.hid hSq
  simp only [SS.cells, hw, hk, hx] at cs
  go_enter Try.func25, Try.ntmps25
  go_wp2_with fail
  go_region_held3 (fun w' => w'.cell? ⟨bx, 1, none⟩ = some (.int .i64 1)) (first | exact hS00 | exact hSq.out _ f3.out) (first | (go_at_call 38; refine C.out.mono ?_; rintro e w3 ⟨rfl, hS3, f3⟩; replace hS3 := Lib.hid hS3; replace f3 := Lib.hid f3))
  have PB3 := f3.out.pt PB.out.drew (by simp; omega)
  have c3 := PB3.cell
  have FA : Fr [b] w w3 := (FB.out.drew.mono (by simp)).trans f3.out
  replace FA := Lib.hid FA; replace PB3 := Lib.hid PB3
  clear cb cs hS00
  go_wp2_with fail
  refine (sent_any 1 s.m 0 w3).mono ?_
  rintro e w4 ⟨⟨v4, rfl, hv4⟩, f4⟩
  have FIN := FA.out.trans (f4.mono (by simp))
  have S4 := hS3.out.fr f4
  have V4 := hv4.le FA.out.size
  clear hv4 c3
  go_wp2
  go_ret2
  exact ⟨⟨_, rfl, V4⟩, S4, FIN⟩
theorem user_busy3 (b : Nat) (s : SS) (e : Ev) (w : World) (h : SM X w b s) (hk1 : e.kind = 3) (hw : s.wt = false) (hk : s.kt = false) (hx : s.major ≠ 0) :
    Calls Try.prog 25 #[.pointer (some ⟨b, 0, none⟩), e.val] w (OnR X b w s [] 8) := by
  obtain ⟨way, kind, ea, eb, ec, ed⟩ := e
  try dsimp only at hk1 ⊢
  subst hk1
  dsimp only [Ev.val]
  obtain ⟨wb, hwb⟩ : ∃ x, w.alloc (.cells #[.int .i64 way, .int .i64 3, .int .i64 ea, .int .i64 eb, .int .i64 ec, .string ed] TEv) = x := ⟨_, rfl⟩
  have PB := Pt.newA w TEv #[.int .i64 way, .int .i64 3, .int .i64 ea, .int .i64 eb, .int .i64 ec, .string ed]
  rw [hwb] at PB
  have FB : Fr [] w wb := by rw [← hwb]; exact (Fr.refl [] w).alloc _
  obtain ⟨bx, hbx⟩ : ∃ x, w.heap.size = x := ⟨_, rfl⟩
  rw [hbx] at PB
  have cb := PB.cell
  have hS := h.fr FB
  have hlt : b < bx := by have := h.lt; omega
  obtain ⟨vo, vt, hp, ho, ht⟩ := h.fr FB
  have cs := hp.cell
  replace hS := Lib.hid hS; replace PB := Lib.hid PB; replace FB := Lib.hid FB; replace hp := Lib.hid hp; replace ho := Lib.hid ho; replace ht := Lib.hid ht
  clear h
  have hxb : (s.major != 0) = true := by simpa using hx
  simp only [SS.cells, hw, hk] at cs
  go_enter Try.func25, Try.ntmps25
  go_wp2_with fail
  go_ret2
  exact ⟨⟨_, rfl, .inl ⟨rfl, rfl⟩⟩, hS.out, FB.out.mono (by simp)⟩
theorem user_far3 (b : Nat) (s : SS) (e : Ev) (w : World) (h : SM X w b s) (hk1 : e.kind = 3) (hw : s.wt = false) (hk : s.kt = false) (hx : s.major = 0) (hm : 999999 ≤ s.m) :
    Calls Try.prog 25 #[.pointer (some ⟨b, 0, none⟩), e.val] w (OnR X b w s [] 5) := by
  obtain ⟨way, kind, ea, eb, ec, ed⟩ := e
  try dsimp only at hk1 ⊢
  subst hk1
  dsimp only [Ev.val]
  obtain ⟨wb, hwb⟩ : ∃ x, w.alloc (.cells #[.int .i64 way, .int .i64 3, .int .i64 ea, .int .i64 eb, .int .i64 ec, .string ed] TEv) = x := ⟨_, rfl⟩
  have PB := Pt.newA w TEv #[.int .i64 way, .int .i64 3, .int .i64 ea, .int .i64 eb, .int .i64 ec, .string ed]
  rw [hwb] at PB
  have FB : Fr [] w wb := by rw [← hwb]; exact (Fr.refl [] w).alloc _
  obtain ⟨bx, hbx⟩ : ∃ x, w.heap.size = x := ⟨_, rfl⟩
  rw [hbx] at PB
  have cb := PB.cell
  have hS := h.fr FB
  have hlt : b < bx := by have := h.lt; omega
  obtain ⟨vo, vt, hp, ho, ht⟩ := h.fr FB
  have cs := hp.cell
  replace hS := Lib.hid hS; replace PB := Lib.hid PB; replace FB := Lib.hid FB; replace hp := Lib.hid hp; replace ho := Lib.hid ho; replace ht := Lib.hid ht
  clear h
  have hmb : decide (999999 ≤ s.m) = true := decide_eq_true hm
  simp only [SS.cells, hw, hk, hx] at cs
  go_enter Try.func25, Try.ntmps25
  go_wp2_with fail
  go_ret2
  exact ⟨⟨_, rfl, .inl ⟨rfl, rfl⟩⟩, hS.out, FB.out.mono (by simp)⟩
theorem user_ok3 (b : Nat) (s : SS) (e : Ev) (w : World) (h : SM X w b s) (hk1 : e.kind = 3) (hw : s.wt = false) (hk : s.kt = false) (hx : s.major = 0) (hm : 0 ≤ s.m ∧ s.m < 999999) (hn : s.own.length < 900000) :
    Calls Try.prog 25 #[.pointer (some ⟨b, 0, none⟩), e.val] w (OnR X b w { s with m := s.m + 1, major := 1 } [⟨1, 3, s.m, 0, 0, ByteArray.empty⟩] 0) := by
  obtain ⟨way, kind, ea, eb, ec, ed⟩ := e
  try dsimp only at hk1 ⊢
  subst hk1
  dsimp only [Ev.val]
  obtain ⟨wb, hwb⟩ : ∃ x, w.alloc (.cells #[.int .i64 way, .int .i64 3, .int .i64 ea, .int .i64 eb, .int .i64 ec, .string ed] TEv) = x := ⟨_, rfl⟩
  have PB := Pt.newA w TEv #[.int .i64 way, .int .i64 3, .int .i64 ea, .int .i64 eb, .int .i64 ec, .string ed]
  rw [hwb] at PB
  have FB : Fr [] w wb := by rw [← hwb]; exact (Fr.refl [] w).alloc _
  obtain ⟨bx, hbx⟩ : ∃ x, w.heap.size = x := ⟨_, rfl⟩
  rw [hbx] at PB
  have cb := PB.cell
  have hS := h.fr FB
  have hlt : b < bx := by have := h.lt; omega
  obtain ⟨vo, vt, hp, ho, ht⟩ := h.fr FB
  have cs := hp.cell
  replace hS := Lib.hid hS; replace PB := Lib.hid PB; replace FB := Lib.hid FB; replace hp := Lib.hid hp; replace ho := Lib.hid ho; replace ht := Lib.hid ht
  clear h
  have hmb : decide (999999 ≤ s.m) = false := decide_eq_false (by omega)
  have hm3 : ¬ (999999 ≤ s.m) := by omega
  have C := Lib.hid (point_major b s 6 1 wb.drew hS.out.drew hm)
  have hS00 := PB.out.drew.cell 1
  have hSq : ∀ w', Fr [b] wb.drew w' → w'.cell? ⟨bx, 1, none⟩ = some (.int .i64 3) := fun w' hf => (hf.pt PB.out.drew (by simp; omega)).cell 1
  replace hSq := Lib.hid hSq
  simp only [SS.cells, hw, hk, hx] at cs
  go_enter Try.func25, Try.ntmps25
  go_wp2_with fail
  go_region_held3 (fun w' => w'.cell? ⟨bx, 1, none⟩ = some (.int .i64 3)) (first | exact hS00 | exact hSq.out _ f3.out) (first | (go_at_call 38; refine C.out.mono ?_; rintro e w3 ⟨rfl, hS3, f3⟩; replace hS3 := Lib.hid hS3; replace f3 := Lib.hid f3))
  have PB3 := f3.out.pt PB.out.drew (by simp; omega)
  have c3 := PB3.cell
  have FA : Fr [b] w w3 := (FB.out.drew.mono (by simp)).trans f3.out
  replace FA := Lib.hid FA; replace PB3 := Lib.hid PB3
  clear cb cs hS00
  go_wp2_with fail
  refine (sent_any 3 s.m 0 w3).mono ?_
  rintro e w4 ⟨⟨v4, rfl, hv4⟩, f4⟩
  have FIN := FA.out.trans (f4.mono (by simp))
  have S4 := hS3.out.fr f4
  have V4 := hv4.le FA.out.size
  clear hv4 c3
  go_wp2
  go_ret2
  exact ⟨⟨_, rfl, V4⟩, S4, FIN⟩
theorem user_bad2 (b : Nat) (s : SS) (e : Ev) (w : World) (h : SM X w b s) (hk1 : e.kind = 2) (hw : s.wt = false) (hk : s.kt = false) (hn : s.own.length < 900000 ∧ s.theirs.length < 900000) (hmem : e.a ∉ s.theirs) :
    Calls Try.prog 25 #[.pointer (some ⟨b, 0, none⟩), e.val] w (OnR X b w s [] 8) := by
  obtain ⟨way, kind, ea, eb, ec, ed⟩ := e
  try dsimp only at hk1 hmem ⊢
  subst hk1
  dsimp only [Ev.val]
  obtain ⟨wb, hwb⟩ : ∃ x, w.alloc (.cells #[.int .i64 way, .int .i64 2, .int .i64 ea, .int .i64 eb, .int .i64 ec, .string ed] TEv) = x := ⟨_, rfl⟩
  have PB := Pt.newA w TEv #[.int .i64 way, .int .i64 2, .int .i64 ea, .int .i64 eb, .int .i64 ec, .string ed]
  rw [hwb] at PB
  have FB : Fr [] w wb := by rw [← hwb]; exact (Fr.refl [] w).alloc _
  obtain ⟨bx, hbx⟩ : ∃ x, w.heap.size = x := ⟨_, rfl⟩
  rw [hbx] at PB
  have cb := PB.cell
  have hS := h.fr FB
  have hlt : b < bx := by have := h.lt; omega
  obtain ⟨vo, vt, hp, ho, ht⟩ := h.fr FB
  have cs := hp.cell
  replace hS := Lib.hid hS; replace PB := Lib.hid PB; replace FB := Lib.hid FB; replace hp := Lib.hid hp; replace ho := Lib.hid ho; replace ht := Lib.hid ht
  clear h
  have CT := Lib.hid (fun k => contains_any vt s.theirs ea (wb.drewN k) b (ht.out.fr ((Fr.refl [] wb).drewN k) (by simp)) (by omega))
  rw [decide_eq_false hmem] at CT
  simp only [SS.cells, hw, hk] at cs
  go_enter Try.func25, Try.ntmps25
  go_wp2_with fail
  go_quiet (first | (go_at_call 40; exact Calls.quiet_of_same ((CT.out _).mono fun _ _ h => ⟨h.1, h.2.symm⟩)))
  go_wp2_with fail
  go_ret2
  exact ⟨⟨_, rfl, .inl ⟨rfl, rfl⟩⟩, hS.out.fr ((Fr.refl [] wb).drewN nq), (FB.out.drewN nq).mono (by simp)⟩
theorem user_bad4 (b : Nat) (s : SS) (e : Ev) (w : World) (h : SM X w b s) (hk1 : e.kind = 4) (hw : s.wt = false) (hk : s.kt = false) (hm : s.major ≠ 2) :
    Calls Try.prog 25 #[.pointer (some ⟨b, 0, none⟩), e.val] w (OnR X b w s [] 8) := by
  obtain ⟨way, kind, ea, eb, ec, ed⟩ := e
  try dsimp only at hk1 ⊢
  subst hk1
  dsimp only [Ev.val]
  obtain ⟨wb, hwb⟩ : ∃ x, w.alloc (.cells #[.int .i64 way, .int .i64 4, .int .i64 ea, .int .i64 eb, .int .i64 ec, .string ed] TEv) = x := ⟨_, rfl⟩
  have PB := Pt.newA w TEv #[.int .i64 way, .int .i64 4, .int .i64 ea, .int .i64 eb, .int .i64 ec, .string ed]
  rw [hwb] at PB
  have FB : Fr [] w wb := by rw [← hwb]; exact (Fr.refl [] w).alloc _
  obtain ⟨bx, hbx⟩ : ∃ x, w.heap.size = x := ⟨_, rfl⟩
  rw [hbx] at PB
  have cb := PB.cell
  have hS := h.fr FB
  have hlt : b < bx := by have := h.lt; omega
  obtain ⟨vo, vt, hp, ho, ht⟩ := h.fr FB
  have cs := hp.cell
  replace hS := Lib.hid hS; replace PB := Lib.hid PB; replace FB := Lib.hid FB; replace hp := Lib.hid hp; replace ho := Lib.hid ho; replace ht := Lib.hid ht
  clear h
  have hmb : (s.major != 2) = true := by simpa using hm
  simp only [SS.cells, hw, hk] at cs
  go_enter Try.func25, Try.ntmps25
  go_wp2_with fail
  go_ret2
  exact ⟨⟨_, rfl, .inl ⟨rfl, rfl⟩⟩, hS.out, FB.out.mono (by simp)⟩
theorem user_ok4 (b : Nat) (s : SS) (e : Ev) (w : World) (h : SM X w b s) (hk1 : e.kind = 4) (hw : s.wt = false) (hk : s.kt = false) (hm : s.major = 2) (hm0 : 0 ≤ s.m ∧ s.m ≤ 999999) (hn : s.own.length < 900000 ∧ s.theirs.length < 900000) :
    Calls Try.prog 25 #[.pointer (some ⟨b, 0, none⟩), e.val] w (OnR X b w s.settled [⟨1, 4, s.m - 1, 0, 0, ByteArray.empty⟩] 0) := by
  obtain ⟨way, kind, ea, eb, ec, ed⟩ := e
  try dsimp only at hk1 ⊢
  subst hk1
  dsimp only [Ev.val]
  obtain ⟨wb, hwb⟩ : ∃ x, w.alloc (.cells #[.int .i64 way, .int .i64 4, .int .i64 ea, .int .i64 eb, .int .i64 ec, .string ed] TEv) = x := ⟨_, rfl⟩
  have PB := Pt.newA w TEv #[.int .i64 way, .int .i64 4, .int .i64 ea, .int .i64 eb, .int .i64 ec, .string ed]
  rw [hwb] at PB
  have FB : Fr [] w wb := by rw [← hwb]; exact (Fr.refl [] w).alloc _
  obtain ⟨bx, hbx⟩ : ∃ x, w.heap.size = x := ⟨_, rfl⟩
  rw [hbx] at PB
  have cb := PB.cell
  have hS := h.fr FB
  have hlt : b < bx := by have := h.lt; omega
  obtain ⟨vo, vt, hp, ho, ht⟩ := h.fr FB
  have cs := hp.cell
  replace hS := Lib.hid hS; replace PB := Lib.hid PB; replace FB := Lib.hid FB; replace hp := Lib.hid hp; replace ho := Lib.hid ho; replace ht := Lib.hid ht
  clear h
  have C := Lib.hid (settle_any b s wb hS.out (by omega))
  have w1 : wrap64 (s.m - 1) = s.m - 1 := by unfold wrap64; omega
  simp only [SS.cells, hw, hk, hm] at cs
  go_enter Try.func25, Try.ntmps25
  go_wp2_with fail
  refine C.out.mono ?_
  rintro e w3 ⟨rfl, S3, f3⟩
  have PB3 := f3.pt PB.out (by simp; omega)
  have c3 := PB3.cell
  have FA : Fr [b] w w3 := (FB.out.mono (by simp)).trans f3
  obtain ⟨vo3, vt3, hp3, ho3, ht3⟩ := S3
  have S3 : SM X w3 b s.settled := ⟨vo3, vt3, hp3, ho3, ht3⟩
  have cs3 := hp3.cell
  simp only [SS.cells, SS.settled, SS.pruned] at cs3
  replace hp3 := Lib.hid hp3; replace ho3 := Lib.hid ho3; replace ht3 := Lib.hid ht3
  replace FA := Lib.hid FA; replace PB3 := Lib.hid PB3; replace S3 := Lib.hid S3
  clear cb cs f3
  go_wp2_with fail
  refine (sent_any 4 (s.m - 1) 0 w3).mono ?_
  rintro e w4 ⟨⟨v4, rfl, hv4⟩, f4⟩
  have FIN := FA.out.trans (f4.mono (by simp))
  have S4 := S3.out.fr f4
  have V4 := hv4.le FA.out.size
  clear hv4 c3
  go_wp2
  go_ret2
  exact ⟨⟨_, rfl, V4⟩, S4, FIN⟩
theorem back_any (b : Nat) (s : SS) (e : Ev) (w : World) (h : SM X w b s) (hb : e.b = 0 ∨ e.b = 1 ∨ e.b = 2) :
    Calls Try.prog 43 #[.pointer (some ⟨b, 0, none⟩), e.val] w (OnR X b w (backS s e).1 (backS s e).2.1 (backS s e).2.2) := by
  unfold backS
  by_cases h1 : e.b = 0 ∧ (e.a < s.r ∨ s.m < e.a)
  · rw [if_pos h1]; exact back_bad b s e w h h1.1 h1.2
  · rw [if_neg h1]; exact back_ok b s e w h hb h1
theorem user_5 (b : Nat) (s : SS) (e : Ev) (w : World) (h : SM X w b s) (hk1 : e.kind = 5) (hw : s.wt = false) (hk : s.kt = false) (hb : e.b = 0 ∨ e.b = 1 ∨ e.b = 2) :
    Calls Try.prog 25 #[.pointer (some ⟨b, 0, none⟩), e.val] w (OnR X b w (backS s e).1 (backS s e).2.1 (backS s e).2.2) := by
  obtain ⟨way, kind, ea, eb, ec, ed⟩ := e
  try dsimp only at hk1 hb ⊢
  subst hk1
  dsimp only [Ev.val]
  obtain ⟨wb, hwb⟩ : ∃ x, w.alloc (.cells #[.int .i64 way, .int .i64 5, .int .i64 ea, .int .i64 eb, .int .i64 ec, .string ed] TEv) = x := ⟨_, rfl⟩
  have PB := Pt.newA w TEv #[.int .i64 way, .int .i64 5, .int .i64 ea, .int .i64 eb, .int .i64 ec, .string ed]
  rw [hwb] at PB
  have FB : Fr [] w wb := by rw [← hwb]; exact (Fr.refl [] w).alloc _
  obtain ⟨bx, hbx⟩ : ∃ x, w.heap.size = x := ⟨_, rfl⟩
  rw [hbx] at PB
  have cb := PB.cell
  have hS := h.fr FB
  have hlt : b < bx := by have := h.lt; omega
  obtain ⟨vo, vt, hp, ho, ht⟩ := h.fr FB
  have cs := hp.cell
  replace hS := Lib.hid hS; replace PB := Lib.hid PB; replace FB := Lib.hid FB; replace hp := Lib.hid hp; replace ho := Lib.hid ho; replace ht := Lib.hid ht
  clear h
  have C := Lib.hid (back_any b s ⟨way, 5, ea, eb, ec, ed⟩ wb hS.out hb)
  dsimp only [Ev.val] at C
  obtain ⟨R, hR⟩ : ∃ R, backS s ⟨way, 5, ea, eb, ec, ed⟩ = R := ⟨_, rfl⟩
  rw [hR] at C
  rw [hR]
  simp only [SS.cells, hw, hk] at cs
  go_enter Try.func25, Try.ntmps25
  go_wp2_with fail
  refine C.out.mono ?_
  rintro e w3 ⟨⟨v3, rfl, hv3⟩, S3, f3⟩
  have FIN := (FB.out.mono (by simp)).trans f3
  have V3 := hv3.le FB.out.size
  clear cb cs f3 hv3
  go_wp2
  go_ret2
  exact ⟨⟨_, rfl, V3⟩, S3, FIN⟩
theorem user_bad7 (b : Nat) (s : SS) (e : Ev) (w : World) (h : SM X w b s) (hk1 : e.kind = 7) (hw : s.wt = false) (hk : s.kt = false) :
    Calls Try.prog 25 #[.pointer (some ⟨b, 0, none⟩), e.val] w (OnR X b w s [] 8) := by
  obtain ⟨way, kind, ea, eb, ec, ed⟩ := e
  try dsimp only at hk1 ⊢
  subst hk1
  dsimp only [Ev.val]
  obtain ⟨wb, hwb⟩ : ∃ x, w.alloc (.cells #[.int .i64 way, .int .i64 7, .int .i64 ea, .int .i64 eb, .int .i64 ec, .string ed] TEv) = x := ⟨_, rfl⟩
  have PB := Pt.newA w TEv #[.int .i64 way, .int .i64 7, .int .i64 ea, .int .i64 eb, .int .i64 ec, .string ed]
  rw [hwb] at PB
  have FB : Fr [] w wb := by rw [← hwb]; exact (Fr.refl [] w).alloc _
  obtain ⟨bx, hbx⟩ : ∃ x, w.heap.size = x := ⟨_, rfl⟩
  rw [hbx] at PB
  have cb := PB.cell
  have hS := h.fr FB
  have hlt : b < bx := by have := h.lt; omega
  obtain ⟨vo, vt, hp, ho, ht⟩ := h.fr FB
  have cs := hp.cell
  replace hS := Lib.hid hS; replace PB := Lib.hid PB; replace FB := Lib.hid FB; replace hp := Lib.hid hp; replace ho := Lib.hid ho; replace ht := Lib.hid ht
  clear h
  simp only [SS.cells, hw, hk] at cs
  go_enter Try.func25, Try.ntmps25
  go_wp2_with fail
  go_ret2
  exact ⟨⟨_, rfl, .inl ⟨rfl, rfl⟩⟩, hS.out, FB.out.mono (by simp)⟩
theorem user_far7 (b : Nat) (s : SS) (e : Ev) (w : World) (h : SM X w b s) (hk1 : e.kind = 7) (hw : s.wt = false) (hk : s.kt = true) (h2 : s.kh ≠ 2) (hx : e.a ≠ s.kn) :
    Calls Try.prog 25 #[.pointer (some ⟨b, 0, none⟩), e.val] w (OnR X b w s [] 5) := by
  obtain ⟨way, kind, ea, eb, ec, ed⟩ := e
  try dsimp only at hk1 hx ⊢
  subst hk1
  dsimp only [Ev.val]
  obtain ⟨wb, hwb⟩ : ∃ x, w.alloc (.cells #[.int .i64 way, .int .i64 7, .int .i64 ea, .int .i64 eb, .int .i64 ec, .string ed] TEv) = x := ⟨_, rfl⟩
  have PB := Pt.newA w TEv #[.int .i64 way, .int .i64 7, .int .i64 ea, .int .i64 eb, .int .i64 ec, .string ed]
  rw [hwb] at PB
  have FB : Fr [] w wb := by rw [← hwb]; exact (Fr.refl [] w).alloc _
  obtain ⟨bx, hbx⟩ : ∃ x, w.heap.size = x := ⟨_, rfl⟩
  rw [hbx] at PB
  have cb := PB.cell
  have hS := h.fr FB
  have hlt : b < bx := by have := h.lt; omega
  obtain ⟨vo, vt, hp, ho, ht⟩ := h.fr FB
  have cs := hp.cell
  replace hS := Lib.hid hS; replace PB := Lib.hid PB; replace FB := Lib.hid FB; replace hp := Lib.hid hp; replace ho := Lib.hid ho; replace ht := Lib.hid ht
  clear h
  have h2b : (s.kh != 2) = true := by simpa using h2
  have hxb : (ea != s.kn) = true := by simpa using hx
  simp only [SS.cells, hw, hk] at cs
  go_enter Try.func25, Try.ntmps25
  go_wp2_with fail
  go_quiet (fail)
  go_wp2_with fail
  go_ret2
  exact ⟨⟨_, rfl, .inl ⟨rfl, rfl⟩⟩, hS.out.fr ((Fr.refl [] wb).drewN nq), (FB.out.drewN nq).mono (by simp)⟩
theorem user_ok7a (b : Nat) (s : SS) (e : Ev) (w : World) (h : SM X w b s) (hk1 : e.kind = 7) (hw : s.wt = false) (hk : s.kt = true) (h2 : s.kh = 2) (hn : s.own.length < 900000 ∧ s.theirs.length < 900000) :
    Calls Try.prog 25 #[.pointer (some ⟨b, 0, none⟩), e.val] w (OnR X b w (s.anew 2 e.a) [⟨1, 7, e.a, 2, 0, ByteArray.empty⟩] 0) := by
  obtain ⟨way, kind, ea, eb, ec, ed⟩ := e
  try dsimp only at hk1 ⊢
  subst hk1
  dsimp only [Ev.val]
  obtain ⟨wb, hwb⟩ : ∃ x, w.alloc (.cells #[.int .i64 way, .int .i64 7, .int .i64 ea, .int .i64 eb, .int .i64 ec, .string ed] TEv) = x := ⟨_, rfl⟩
  have PB := Pt.newA w TEv #[.int .i64 way, .int .i64 7, .int .i64 ea, .int .i64 eb, .int .i64 ec, .string ed]
  rw [hwb] at PB
  have FB : Fr [] w wb := by rw [← hwb]; exact (Fr.refl [] w).alloc _
  obtain ⟨bx, hbx⟩ : ∃ x, w.heap.size = x := ⟨_, rfl⟩
  rw [hbx] at PB
  have cb := PB.cell
  have hS := h.fr FB
  have hlt : b < bx := by have := h.lt; omega
  obtain ⟨vo, vt, hp, ho, ht⟩ := h.fr FB
  have cs := hp.cell
  replace hS := Lib.hid hS; replace PB := Lib.hid PB; replace FB := Lib.hid FB; replace hp := Lib.hid hp; replace ho := Lib.hid ho; replace ht := Lib.hid ht
  clear h
  have h22 : ((2 : Int) != 2) = false := by simp
  have C := Lib.hid (fun w h => anew_any (X := X) b s 2 ea w h (by omega))
  simp only [SS.cells, hw, hk, h2] at cs
  go_enter Try.func25, Try.ntmps25
  go_wp2_with fail
  go_quiet (fail)
  obtain ⟨wq, hwq⟩ : ∃ x, wb.drewN nq = x := ⟨_, rfl⟩
  have FQ : Fr [] wb wq := by rw [← hwq]; exact (Fr.refl [] wb).drewN nq
  rw [hwq]
  have PQ := FQ.pt PB.out (by simp)
  have cq := PQ.cell
  have hSq := hS.out.fr FQ
  obtain ⟨vo2, vt2, hp2, ho2, ht2⟩ := hS.out.fr FQ
  have cs2 := hp2.cell
  simp only [SS.cells, hw, hk, h2] at cs2
  replace PQ := Lib.hid PQ; replace FQ := Lib.hid FQ; replace hp2 := Lib.hid hp2; replace ho2 := Lib.hid ho2; replace ht2 := Lib.hid ht2; replace hSq := Lib.hid hSq
  clear cb cs hwq
  go_wp2_with fail
  refine (C.out wq hSq.out).mono ?_
  rintro e w3 ⟨rfl, S3, f3⟩
  have PB3 := f3.pt PQ.out (by simp; omega)
  have c3 := PB3.cell
  have FA : Fr [b] w w3 := ((FB.out.trans FQ.out).mono (by simp)).trans f3
  replace FA := Lib.hid FA; replace PB3 := Lib.hid PB3; replace S3 := Lib.hid S3
  clear cq cs2 f3
  go_wp2_with fail
  refine (sent_any 7 ea 2 w3).mono ?_
  rintro e w4 ⟨⟨v4, rfl, hv4⟩, f4⟩
  have FIN := FA.out.trans (f4.mono (by simp))
  have S4 := S3.out.fr f4
  have V4 := hv4.le FA.out.size
  clear hv4 c3
  go_wp2
  go_ret2
  exact ⟨⟨_, rfl, V4⟩, S4, FIN⟩
theorem user_ok7b (b : Nat) (s : SS) (e : Ev) (w : World) (h : SM X w b s) (hk1 : e.kind = 7) (hw : s.wt = false) (hk : s.kt = true) (h2 : s.kh ≠ 2) (hx : e.a = s.kn) (hn : s.own.length < 900000 ∧ s.theirs.length < 900000) :
    Calls Try.prog 25 #[.pointer (some ⟨b, 0, none⟩), e.val] w (OnR X b w (s.anew s.kh e.a) [⟨1, 7, e.a, s.kh, 0, ByteArray.empty⟩] 0) := by
  obtain ⟨way, kind, ea, eb, ec, ed⟩ := e
  try dsimp only at hk1 hx ⊢
  subst hk1
  subst hx
  dsimp only [Ev.val]
  obtain ⟨wb, hwb⟩ : ∃ x, w.alloc (.cells #[.int .i64 way, .int .i64 7, .int .i64 s.kn, .int .i64 eb, .int .i64 ec, .string ed] TEv) = x := ⟨_, rfl⟩
  have PB := Pt.newA w TEv #[.int .i64 way, .int .i64 7, .int .i64 s.kn, .int .i64 eb, .int .i64 ec, .string ed]
  rw [hwb] at PB
  have FB : Fr [] w wb := by rw [← hwb]; exact (Fr.refl [] w).alloc _
  obtain ⟨bx, hbx⟩ : ∃ x, w.heap.size = x := ⟨_, rfl⟩
  rw [hbx] at PB
  have cb := PB.cell
  have hS := h.fr FB
  have hlt : b < bx := by have := h.lt; omega
  obtain ⟨vo, vt, hp, ho, ht⟩ := h.fr FB
  have cs := hp.cell
  replace hS := Lib.hid hS; replace PB := Lib.hid PB; replace FB := Lib.hid FB; replace hp := Lib.hid hp; replace ho := Lib.hid ho; replace ht := Lib.hid ht
  clear h
  have h2b : (s.kh != 2) = true := by simpa using h2
  have hxb : (s.kn != s.kn) = false := by simp
  have C := Lib.hid (fun w h => anew_any (X := X) b s s.kh s.kn w h (by omega))
  simp only [SS.cells, hw, hk] at cs
  go_enter Try.func25, Try.ntmps25
  go_wp2_with fail
  go_quiet (fail)
  obtain ⟨wq, hwq⟩ : ∃ x, wb.drewN nq = x := ⟨_, rfl⟩
  have FQ : Fr [] wb wq := by rw [← hwq]; exact (Fr.refl [] wb).drewN nq
  rw [hwq]
  have PQ := FQ.pt PB.out (by simp)
  have cq := PQ.cell
  have hSq := hS.out.fr FQ
  obtain ⟨vo2, vt2, hp2, ho2, ht2⟩ := hS.out.fr FQ
  have cs2 := hp2.cell
  simp only [SS.cells, hw, hk] at cs2
  replace PQ := Lib.hid PQ; replace FQ := Lib.hid FQ; replace hp2 := Lib.hid hp2; replace ho2 := Lib.hid ho2; replace ht2 := Lib.hid ht2; replace hSq := Lib.hid hSq
  clear cb cs hwq
  go_wp2_with fail
  refine (C.out wq hSq.out).mono ?_
  rintro e w3 ⟨rfl, S3, f3⟩
  have PB3 := f3.pt PQ.out (by simp; omega)
  have c3 := PB3.cell
  have FA : Fr [b] w w3 := ((FB.out.trans FQ.out).mono (by simp)).trans f3
  replace FA := Lib.hid FA; replace PB3 := Lib.hid PB3; replace S3 := Lib.hid S3
  clear cq cs2 f3
  go_wp2_with fail
  refine (sent_any 7 s.kn s.kh w3).mono ?_
  rintro e w4 ⟨⟨v4, rfl, hv4⟩, f4⟩
  have FIN := FA.out.trans (f4.mono (by simp))
  have S4 := S3.out.fr f4
  have V4 := hv4.le FA.out.size
  clear hv4 c3
  go_wp2
  go_ret2
  exact ⟨⟨_, rfl, V4⟩, S4, FIN⟩
end Go.Proofs.Ytjgmlnkbplgloaa
