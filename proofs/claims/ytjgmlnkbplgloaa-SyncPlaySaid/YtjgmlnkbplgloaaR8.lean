import Derived.Test.YtjgmlnkbplgloaaR7
import Derived.Test.YtjgmlnkbplgloaaQ3
namespace Go.Proofs.Ytjgmlnkbplgloaa
open Go.RowKit
set_option linter.unusedVariables false
set_option linter.unusedSimpArgs false
set_option maxHeartbeats 8000000
set_option maxRecDepth 20000
theorem up_waits (b : Nat) (s : RS) (bo bt : Option Nat) (e : Ev) (w : World) (h : RM w b s bo bt) (hw : s.wt = true) :
    Calls Try.prog 29 #[.pointer (some ⟨b, 0, none⟩), e.val] w (RonR b bo bt w s [] 8) := by
  obtain ⟨way, kind, ea, eb, ec, ed⟩ := e
  try dsimp only at ⊢
  dsimp only [Ev.val]
  obtain ⟨wb, hwb⟩ : ∃ x, w.alloc (.cells #[.int .i64 way, .int .i64 kind, .int .i64 ea, .int .i64 eb, .int .i64 ec, .string ed] TEv) = x := ⟨_, rfl⟩
  have PB := Pt.newA w TEv #[.int .i64 way, .int .i64 kind, .int .i64 ea, .int .i64 eb, .int .i64 ec, .string ed]
  rw [hwb] at PB
  have FB : Fr [] w wb := by rw [← hwb]; exact (Fr.refl [] w).alloc _
  obtain ⟨bx, hbx⟩ : ∃ x, w.heap.size = x := ⟨_, rfl⟩
  rw [hbx] at PB
  have cb := PB.cell
  have hlt : b < bx := by have := h.lt; omega
  have hR := h.fr0 FB
  obtain ⟨vo, vt, hp, ho, ht, x1, x2⟩ := h.fr0 FB
  have cs := hp.cell
  have zs := hp.free
  replace hR := Lib.hid hR; replace PB := Lib.hid PB; replace FB := Lib.hid FB; replace hp := Lib.hid hp; replace ho := Lib.hid ho; replace ht := Lib.hid ht; replace x1 := Lib.hid x1; replace x2 := Lib.hid x2
  clear h
  simp only [RS.cells, hw] at cs
  go_enter Try.func29, Try.ntmps29
  go_wp2_with fail
  go_ret2
  exact ⟨⟨_, rfl, .inl ⟨rfl, rfl⟩⟩, hR.out.rn (FB.out.mono (by simp))⟩
theorem up_owes (b : Nat) (s : RS) (bo bt : Option Nat) (e : Ev) (w : World) (h : RM w b s bo bt) (hw : s.wt = false) (hk : s.kt = true) (hx : e.kind ≠ 7) :
    Calls Try.prog 29 #[.pointer (some ⟨b, 0, none⟩), e.val] w (RonR b bo bt w s [] 8) := by
  obtain ⟨way, kind, ea, eb, ec, ed⟩ := e
  try dsimp only at hx ⊢
  dsimp only [Ev.val]
  obtain ⟨wb, hwb⟩ : ∃ x, w.alloc (.cells #[.int .i64 way, .int .i64 kind, .int .i64 ea, .int .i64 eb, .int .i64 ec, .string ed] TEv) = x := ⟨_, rfl⟩
  have PB := Pt.newA w TEv #[.int .i64 way, .int .i64 kind, .int .i64 ea, .int .i64 eb, .int .i64 ec, .string ed]
  rw [hwb] at PB
  have FB : Fr [] w wb := by rw [← hwb]; exact (Fr.refl [] w).alloc _
  obtain ⟨bx, hbx⟩ : ∃ x, w.heap.size = x := ⟨_, rfl⟩
  rw [hbx] at PB
  have cb := PB.cell
  have hlt : b < bx := by have := h.lt; omega
  have hR := h.fr0 FB
  obtain ⟨vo, vt, hp, ho, ht, x1, x2⟩ := h.fr0 FB
  have cs := hp.cell
  have zs := hp.free
  replace hR := Lib.hid hR; replace PB := Lib.hid PB; replace FB := Lib.hid FB; replace hp := Lib.hid hp; replace ho := Lib.hid ho; replace ht := Lib.hid ht; replace x1 := Lib.hid x1; replace x2 := Lib.hid x2
  clear h
  have hxb : (kind != 7) = true := by simpa using hx
  simp only [RS.cells, hw, hk] at cs
  go_enter Try.func29, Try.ntmps29
  go_wp2_with fail
  go_ret2
  exact ⟨⟨_, rfl, .inl ⟨rfl, rfl⟩⟩, hR.out.rn (FB.out.mono (by simp))⟩
theorem up_pt1 (b : Nat) (s : RS) (bo bt : Option Nat) (e : Ev) (w : World) (h : RM w b s bo bt) (hk1 : e.kind = 1) (hw : s.wt = false) (hk : s.kt = false) (s' : RS) (L : List Ev) (c : Int)
    (hC : ∀ w', RM w' b s bo bt → Calls Try.prog 47 #[.pointer (some ⟨b, 0, none⟩), .bool false] w' (RonR b bo bt w' s' L c)) :
    Calls Try.prog 29 #[.pointer (some ⟨b, 0, none⟩), e.val] w (RonR b bo bt w s' L c) := by
  obtain ⟨way, kind, ea, eb, ec, ed⟩ := e
  try dsimp only at hk1 ⊢
  subst hk1
  dsimp only [Ev.val]
  obtain ⟨wb, hwb⟩ : ∃ x, w.alloc (.cells #[.int .i64 way, .int .i64 1, .int .i64 ea, .int .i64 eb, .int .i64 ec, .string ed] TEv) = x := ⟨_, rfl⟩
  have PB := Pt.newA w TEv #[.int .i64 way, .int .i64 1, .int .i64 ea, .int .i64 eb, .int .i64 ec, .string ed]
  rw [hwb] at PB
  have FB : Fr [] w wb := by rw [← hwb]; exact (Fr.refl [] w).alloc _
  obtain ⟨bx, hbx⟩ : ∃ x, w.heap.size = x := ⟨_, rfl⟩
  rw [hbx] at PB
  have cb := PB.cell
  have hlt : b < bx := by have := h.lt; omega
  have hR := h.fr0 FB
  obtain ⟨vo, vt, hp, ho, ht, x1, x2⟩ := h.fr0 FB
  have cs := hp.cell
  have zs := hp.free
  replace hR := Lib.hid hR; replace PB := Lib.hid PB; replace FB := Lib.hid FB; replace hp := Lib.hid hp; replace ho := Lib.hid ho; replace ht := Lib.hid ht; replace x1 := Lib.hid x1; replace x2 := Lib.hid x2
  clear h
  have C := Lib.hid (hC wb hR.out)
  clear hC
  simp only [RS.cells, hw, hk] at cs
  go_enter Try.func29, Try.ntmps29
  go_wp2_with fail
  refine C.out.mono ?_
  rintro e w9 ⟨⟨v9, rfl, hv9⟩, R9⟩
  have V9 := Lib.hid (hv9.le FB.out.size)
  have R9' := Lib.hid (R9.after (FB.out.mono (by simp)))
  clear hv9 R9
  go_wp2_with fail
  go_ret2
  exact ⟨⟨_, rfl, V9.out⟩, R9'.out⟩
theorem up_pt3 (b : Nat) (s : RS) (bo bt : Option Nat) (e : Ev) (w : World) (h : RM w b s bo bt) (hk1 : e.kind = 3) (hw : s.wt = false) (hk : s.kt = false) (s' : RS) (L : List Ev) (c : Int)
    (hC : ∀ w', RM w' b s bo bt → Calls Try.prog 47 #[.pointer (some ⟨b, 0, none⟩), .bool true] w' (RonR b bo bt w' s' L c)) :
    Calls Try.prog 29 #[.pointer (some ⟨b, 0, none⟩), e.val] w (RonR b bo bt w s' L c) := by
  obtain ⟨way, kind, ea, eb, ec, ed⟩ := e
  try dsimp only at hk1 ⊢
  subst hk1
  dsimp only [Ev.val]
  obtain ⟨wb, hwb⟩ : ∃ x, w.alloc (.cells #[.int .i64 way, .int .i64 3, .int .i64 ea, .int .i64 eb, .int .i64 ec, .string ed] TEv) = x := ⟨_, rfl⟩
  have PB := Pt.newA w TEv #[.int .i64 way, .int .i64 3, .int .i64 ea, .int .i64 eb, .int .i64 ec, .string ed]
  rw [hwb] at PB
  have FB : Fr [] w wb := by rw [← hwb]; exact (Fr.refl [] w).alloc _
  obtain ⟨bx, hbx⟩ : ∃ x, w.heap.size = x := ⟨_, rfl⟩
  rw [hbx] at PB
  have cb := PB.cell
  have hlt : b < bx := by have := h.lt; omega
  have hR := h.fr0 FB
  obtain ⟨vo, vt, hp, ho, ht, x1, x2⟩ := h.fr0 FB
  have cs := hp.cell
  have zs := hp.free
  replace hR := Lib.hid hR; replace PB := Lib.hid PB; replace FB := Lib.hid FB; replace hp := Lib.hid hp; replace ho := Lib.hid ho; replace ht := Lib.hid ht; replace x1 := Lib.hid x1; replace x2 := Lib.hid x2
  clear h
  have C := Lib.hid (hC wb hR.out)
  clear hC
  simp only [RS.cells, hw, hk] at cs
  go_enter Try.func29, Try.ntmps29
  go_wp2_with fail
  refine C.out.mono ?_
  rintro e w9 ⟨⟨v9, rfl, hv9⟩, R9⟩
  have V9 := Lib.hid (hv9.le FB.out.size)
  have R9' := Lib.hid (R9.after (FB.out.mono (by simp)))
  clear hv9 R9
  go_wp2_with fail
  go_ret2
  exact ⟨⟨_, rfl, V9.out⟩, R9'.out⟩
theorem up_bad2a (b : Nat) (s : RS) (bo bt : Option Nat) (e : Ev) (w : World) (h : RM w b s bo bt) (hk1 : e.kind = 2) (hw : s.wt = false) (hk : s.kt = false) (hn : s.own.length < 900000 ∧ s.other.length < 900000) (hx : e.a < s.a) :
    Calls Try.prog 29 #[.pointer (some ⟨b, 0, none⟩), e.val] w (RonR b bo bt w s [] 8) := by
  obtain ⟨way, kind, ea, eb, ec, ed⟩ := e
  try dsimp only at  hx hk1 ⊢
  subst hk1
  dsimp only [Ev.val]
  obtain ⟨wb, hwb⟩ : ∃ x, w.alloc (.cells #[.int .i64 way, .int .i64 2, .int .i64 ea, .int .i64 eb, .int .i64 ec, .string ed] TEv) = x := ⟨_, rfl⟩
  have PB := Pt.newA w TEv #[.int .i64 way, .int .i64 2, .int .i64 ea, .int .i64 eb, .int .i64 ec, .string ed]
  rw [hwb] at PB
  have FB : Fr [] w wb := by rw [← hwb]; exact (Fr.refl [] w).alloc _
  obtain ⟨bx, hbx⟩ : ∃ x, w.heap.size = x := ⟨_, rfl⟩
  rw [hbx] at PB
  have cb := PB.cell
  have hlt : b < bx := by have := h.lt; omega
  have hR := h.fr0 FB
  obtain ⟨vo, vt, hp, ho, ht, x1, x2⟩ := h.fr0 FB
  have cs := hp.cell
  have zs := hp.free
  replace hR := Lib.hid hR; replace PB := Lib.hid PB; replace FB := Lib.hid FB; replace hp := Lib.hid hp; replace ho := Lib.hid ho; replace ht := Lib.hid ht; replace x1 := Lib.hid x1; replace x2 := Lib.hid x2
  clear h
  have d1 : decide (ea < s.a) = true := decide_eq_true hx
  simp only [RS.cells, hw, hk] at cs
  go_enter Try.func29, Try.ntmps29
  go_wp2_with fail
  go_quiet (fail)
  go_wp2_with fail
  go_ret2
  exact ⟨⟨_, rfl, .inl ⟨rfl, rfl⟩⟩, (hR.out.fr0 ((Fr.refl [] wb).drewN nq)).rn ((FB.out.drewN nq).mono (by simp))⟩
theorem up_bad2b (b : Nat) (s : RS) (bo bt : Option Nat) (e : Ev) (w : World) (h : RM w b s bo bt) (hk1 : e.kind = 2) (hw : s.wt = false) (hk : s.kt = false) (hn : s.own.length < 900000 ∧ s.other.length < 900000) (hx0 : ¬ e.a < s.a) (hx : s.m ≤ e.a) :
    Calls Try.prog 29 #[.pointer (some ⟨b, 0, none⟩), e.val] w (RonR b bo bt w s [] 8) := by
  obtain ⟨way, kind, ea, eb, ec, ed⟩ := e
  try dsimp only at hx0 hx hk1 ⊢
  subst hk1
  dsimp only [Ev.val]
  obtain ⟨wb, hwb⟩ : ∃ x, w.alloc (.cells #[.int .i64 way, .int .i64 2, .int .i64 ea, .int .i64 eb, .int .i64 ec, .string ed] TEv) = x := ⟨_, rfl⟩
  have PB := Pt.newA w TEv #[.int .i64 way, .int .i64 2, .int .i64 ea, .int .i64 eb, .int .i64 ec, .string ed]
  rw [hwb] at PB
  have FB : Fr [] w wb := by rw [← hwb]; exact (Fr.refl [] w).alloc _
  obtain ⟨bx, hbx⟩ : ∃ x, w.heap.size = x := ⟨_, rfl⟩
  rw [hbx] at PB
  have cb := PB.cell
  have hlt : b < bx := by have := h.lt; omega
  have hR := h.fr0 FB
  obtain ⟨vo, vt, hp, ho, ht, x1, x2⟩ := h.fr0 FB
  have cs := hp.cell
  have zs := hp.free
  replace hR := Lib.hid hR; replace PB := Lib.hid PB; replace FB := Lib.hid FB; replace hp := Lib.hid hp; replace ho := Lib.hid ho; replace ht := Lib.hid ht; replace x1 := Lib.hid x1; replace x2 := Lib.hid x2
  clear h
  have d1 : decide (ea < s.a) = false := decide_eq_false hx0
  have d2 : decide (s.m ≤ ea) = true := decide_eq_true hx
  simp only [RS.cells, hw, hk] at cs
  go_enter Try.func29, Try.ntmps29
  go_wp2_with fail
  go_quiet (fail)
  go_wp2_with fail
  go_ret2
  exact ⟨⟨_, rfl, .inl ⟨rfl, rfl⟩⟩, (hR.out.fr0 ((Fr.refl [] wb).drewN nq)).rn ((FB.out.drewN nq).mono (by simp))⟩
theorem up_bad2c (b : Nat) (s : RS) (bo bt : Option Nat) (e : Ev) (w : World) (h : RM w b s bo bt) (hk1 : e.kind = 2) (hw : s.wt = false) (hk : s.kt = false) (hn : s.own.length < 900000 ∧ s.other.length < 900000) (hx0 : ¬ e.a < s.a) (hx1 : ¬ s.m ≤ e.a) (hx : e.a ∉ s.other) :
    Calls Try.prog 29 #[.pointer (some ⟨b, 0, none⟩), e.val] w (RonR b bo bt w s [] 8) := by
  obtain ⟨way, kind, ea, eb, ec, ed⟩ := e
  try dsimp only at hx0 hx1 hx hk1 ⊢
  subst hk1
  dsimp only [Ev.val]
  obtain ⟨wb, hwb⟩ : ∃ x, w.alloc (.cells #[.int .i64 way, .int .i64 2, .int .i64 ea, .int .i64 eb, .int .i64 ec, .string ed] TEv) = x := ⟨_, rfl⟩
  have PB := Pt.newA w TEv #[.int .i64 way, .int .i64 2, .int .i64 ea, .int .i64 eb, .int .i64 ec, .string ed]
  rw [hwb] at PB
  have FB : Fr [] w wb := by rw [← hwb]; exact (Fr.refl [] w).alloc _
  obtain ⟨bx, hbx⟩ : ∃ x, w.heap.size = x := ⟨_, rfl⟩
  rw [hbx] at PB
  have cb := PB.cell
  have hlt : b < bx := by have := h.lt; omega
  have hR := h.fr0 FB
  obtain ⟨vo, vt, hp, ho, ht, x1, x2⟩ := h.fr0 FB
  have cs := hp.cell
  have zs := hp.free
  replace hR := Lib.hid hR; replace PB := Lib.hid PB; replace FB := Lib.hid FB; replace hp := Lib.hid hp; replace ho := Lib.hid ho; replace ht := Lib.hid ht; replace x1 := Lib.hid x1; replace x2 := Lib.hid x2
  clear h
  have d1 : decide (ea < s.a) = false := decide_eq_false hx0
  have d2 : decide (s.m ≤ ea) = false := decide_eq_false hx1
  have HC := Lib.hid (fun k => has_any vt s.other ea (wb.drewN k) (ht.out.fr ((Fr.refl [] wb).drewN k) (by simp)).ir0 (by omega))
  rw [decide_eq_false hx] at HC
  replace hx := Lib.hid hx
  simp only [RS.cells, hw, hk] at cs
  go_enter Try.func29, Try.ntmps29
  go_wp2_with fail
  go_quiet (first | (go_at_call 48; exact Calls.quiet_of_same ((HC.out _).mono fun _ _ h => ⟨h.1, h.2.symm⟩)))
  go_wp2_with fail
  go_ret2
  exact ⟨⟨_, rfl, .inl ⟨rfl, rfl⟩⟩, (hR.out.fr0 ((Fr.refl [] wb).drewN nq)).rn ((FB.out.drewN nq).mono (by simp))⟩
theorem up_ok2 (b : Nat) (s : RS) (bo bt : Option Nat) (e : Ev) (w : World) (h : RM w b s bo bt) (hk1 : e.kind = 2) (hw : s.wt = false) (hk : s.kt = false) (hn : s.own.length < 900000 ∧ s.other.length < 900000) (h0 : 0 ≤ e.a ∧ e.a ≤ 999999) (hx0 : ¬ e.a < s.a) (hx1 : ¬ s.m ≤ e.a) (hx : e.a ∈ s.other) :
    Calls Try.prog 29 #[.pointer (some ⟨b, 0, none⟩), e.val] w (RonR b bo bt w (RS.tidied { s with a := e.a + 1 }) [⟨1, 2, e.a, 0, 0, ByteArray.empty⟩] 0) := by
  obtain ⟨way, kind, ea, eb, ec, ed⟩ := e
  try dsimp only at h0 hx0 hx1 hx hk1 ⊢
  subst hk1
  dsimp only [Ev.val]
  obtain ⟨wb, hwb⟩ : ∃ x, w.alloc (.cells #[.int .i64 way, .int .i64 2, .int .i64 ea, .int .i64 eb, .int .i64 ec, .string ed] TEv) = x := ⟨_, rfl⟩
  have PB := Pt.newA w TEv #[.int .i64 way, .int .i64 2, .int .i64 ea, .int .i64 eb, .int .i64 ec, .string ed]
  rw [hwb] at PB
  have FB : Fr [] w wb := by rw [← hwb]; exact (Fr.refl [] w).alloc _
  obtain ⟨bx, hbx⟩ : ∃ x, w.heap.size = x := ⟨_, rfl⟩
  rw [hbx] at PB
  have cb := PB.cell
  have hlt : b < bx := by have := h.lt; omega
  have hR := h.fr0 FB
  obtain ⟨vo, vt, hp, ho, ht, x1, x2⟩ := h.fr0 FB
  have cs := hp.cell
  have zs := hp.free
  replace hR := Lib.hid hR; replace PB := Lib.hid PB; replace FB := Lib.hid FB; replace hp := Lib.hid hp; replace ho := Lib.hid ho; replace ht := Lib.hid ht; replace x1 := Lib.hid x1; replace x2 := Lib.hid x2
  clear h
  have d1 : decide (ea < s.a) = false := decide_eq_false hx0
  have d2 : decide (s.m ≤ ea) = false := decide_eq_false hx1
  have HC := Lib.hid (fun k => has_any vt s.other ea (wb.drewN k) (ht.out.fr ((Fr.refl [] wb).drewN k) (by simp)).ir0 (by omega))
  rw [decide_eq_true hx] at HC
  replace hx := Lib.hid hx
  simp only [RS.cells, hw, hk] at cs
  go_enter Try.func29, Try.ntmps29
  go_wp2_with fail
  go_quiet (first | (go_at_call 48; exact Calls.quiet_of_same ((HC.out _).mono fun _ _ h => ⟨h.1, h.2.symm⟩)))
  obtain ⟨wq, hwq⟩ : ∃ x, wb.drewN nq = x := ⟨_, rfl⟩
  have FQ : Fr [] wb wq := by rw [← hwq]; exact (Fr.refl [] wb).drewN nq
  rw [hwq]
  have PBq := FQ.pt PB.out (by simp)
  have hpq := FQ.pt hp.out (by simp)
  have cbq := PBq.cell
  have csq := hpq.cell
  have zsq := hpq.free
  simp only [RS.cells] at csq
  have R1 := (hR.out.fr0 FQ).put (s' := { s with a := ea + 1 }) (j := 2) (v := .int .i64 (ea + 1)) (fun _ _ => rfl) rfl rfl
  have F1 : Fr [b] wq (wq.setCell ⟨b, 2, none⟩ (.int .i64 (ea + 1))) := (Fr.refl _ _).setCell (by simp) _
  obtain ⟨wa, hwa⟩ : ∃ x, wq.setCell ⟨b, 2, none⟩ (.int .i64 (ea + 1)) = x := ⟨_, rfl⟩
  rw [hwa] at R1 F1
  have T := Lib.hid (tidy_any b { s with a := ea + 1 } bo bt wa R1 hn)
  have FA : Fr [b] w wa := ((FB.out.trans FQ).mono (by simp)).trans F1
  have PBa := F1.pt PBq (by simp; omega)
  replace R1 := Lib.hid R1; replace F1 := Lib.hid F1; replace FA := Lib.hid FA; replace PBq := Lib.hid PBq; replace hpq := Lib.hid hpq; replace FQ := Lib.hid FQ; replace PBa := Lib.hid PBa
  clear cb cs zs hwq
  go_wp2_with fail
  refine T.out.mono ?_
  rintro e w3 ⟨rfl, hnew, f3⟩
  have RN3 := (RN.news (bo := bo) (bt := bt) hnew f3).after FA.out
  have PB3 := f3.pt PBa.out (by simp; omega)
  have cb3 := PB3.cell
  replace RN3 := Lib.hid RN3; replace PB3 := Lib.hid PB3; replace f3 := Lib.hid f3; replace hnew := Lib.hid hnew
  clear cbq csq zsq
  go_wp2_with fail
  refine (one_any 1 2 ea 0 w3).mono ?_
  rintro e w9 ⟨⟨v9, rfl, hv9⟩, f9⟩
  have V9 := Lib.hid (hv9.le (FA.out.trans f3.out).size)
  have R9 := Lib.hid (RN3.out.then f9)
  clear hv9 f9
  go_wp2_with fail
  go_ret2
  exact ⟨⟨_, rfl, V9.out⟩, R9.out⟩
theorem up_bad4 (b : Nat) (s : RS) (bo bt : Option Nat) (e : Ev) (w : World) (h : RM w b s bo bt) (hk1 : e.kind = 4) (hw : s.wt = false) (hk : s.kt = false) (hx : s.opn ≠ 2) :
    Calls Try.prog 29 #[.pointer (some ⟨b, 0, none⟩), e.val] w (RonR b bo bt w s [] 8) := by
  obtain ⟨way, kind, ea, eb, ec, ed⟩ := e
  try dsimp only at hk1 ⊢
  subst hk1
  dsimp only [Ev.val]
  obtain ⟨wb, hwb⟩ : ∃ x, w.alloc (.cells #[.int .i64 way, .int .i64 4, .int .i64 ea, .int .i64 eb, .int .i64 ec, .string ed] TEv) = x := ⟨_, rfl⟩
  have PB := Pt.newA w TEv #[.int .i64 way, .int .i64 4, .int .i64 ea, .int .i64 eb, .int .i64 ec, .string ed]
  rw [hwb] at PB
  have FB : Fr [] w wb := by rw [← hwb]; exact (Fr.refl [] w).alloc _
  obtain ⟨bx, hbx⟩ : ∃ x, w.heap.size = x := ⟨_, rfl⟩
  rw [hbx] at PB
  have cb := PB.cell
  have hlt : b < bx := by have := h.lt; omega
  have hR := h.fr0 FB
  obtain ⟨vo, vt, hp, ho, ht, x1, x2⟩ := h.fr0 FB
  have cs := hp.cell
  have zs := hp.free
  replace hR := Lib.hid hR; replace PB := Lib.hid PB; replace FB := Lib.hid FB; replace hp := Lib.hid hp; replace ho := Lib.hid ho; replace ht := Lib.hid ht; replace x1 := Lib.hid x1; replace x2 := Lib.hid x2
  clear h
  have hxb : (s.opn != 2) = true := by simpa using hx
  simp only [RS.cells, hw, hk] at cs
  go_enter Try.func29, Try.ntmps29
  go_wp2_with fail
  go_ret2
  exact ⟨⟨_, rfl, .inl ⟨rfl, rfl⟩⟩, hR.out.rn (FB.out.mono (by simp))⟩
theorem up_ok4 (b : Nat) (s : RS) (bo bt : Option Nat) (e : Ev) (w : World) (h : RM w b s bo bt) (hk1 : e.kind = 4) (hw : s.wt = false) (hk : s.kt = false) (hn : s.own.length < 900000 ∧ s.other.length < 900000) (hm : 0 ≤ s.m ∧ s.m ≤ 999999) (hx : s.opn = 2) :
    Calls Try.prog 29 #[.pointer (some ⟨b, 0, none⟩), e.val] w (RonR b bo bt w (RS.tidied { s with a := s.m, r := s.m, opn := 0 }) [⟨1, 4, s.m - 1, 0, 0, ByteArray.empty⟩] 0) := by
  obtain ⟨way, kind, ea, eb, ec, ed⟩ := e
  try dsimp only at hk1 ⊢
  subst hk1
  dsimp only [Ev.val]
  obtain ⟨wb, hwb⟩ : ∃ x, w.alloc (.cells #[.int .i64 way, .int .i64 4, .int .i64 ea, .int .i64 eb, .int .i64 ec, .string ed] TEv) = x := ⟨_, rfl⟩
  have PB := Pt.newA w TEv #[.int .i64 way, .int .i64 4, .int .i64 ea, .int .i64 eb, .int .i64 ec, .string ed]
  rw [hwb] at PB
  have FB : Fr [] w wb := by rw [← hwb]; exact (Fr.refl [] w).alloc _
  obtain ⟨bx, hbx⟩ : ∃ x, w.heap.size = x := ⟨_, rfl⟩
  rw [hbx] at PB
  have cb := PB.cell
  have hlt : b < bx := by have := h.lt; omega
  have hR := h.fr0 FB
  obtain ⟨vo, vt, hp, ho, ht, x1, x2⟩ := h.fr0 FB
  have cs := hp.cell
  have zs := hp.free
  replace hR := Lib.hid hR; replace PB := Lib.hid PB; replace FB := Lib.hid FB; replace hp := Lib.hid hp; replace ho := Lib.hid ho; replace ht := Lib.hid ht; replace x1 := Lib.hid x1; replace x2 := Lib.hid x2
  clear h
  have R1 := ((hR.out.put (s' := { s with a := s.m }) (j := 2) (v := .int .i64 s.m) (fun _ _ => rfl) rfl rfl).put (s' := { s with a := s.m, r := s.m }) (j := 3) (v := .int .i64 s.m) (fun _ _ => rfl) rfl rfl).put (s' := { s with a := s.m, r := s.m, opn := 0 }) (j := 4) (v := .int .i64 0) (fun _ _ => rfl) rfl rfl
  have F1 : Fr [b] wb (((wb.setCell ⟨b, 2, none⟩ (.int .i64 s.m)).setCell ⟨b, 3, none⟩ (.int .i64 s.m)).setCell ⟨b, 4, none⟩ (.int .i64 0)) := (((Fr.refl _ _).setCell (by simp) _).setCell (by simp) _).setCell (by simp) _
  obtain ⟨wa, hwa⟩ : ∃ x, ((wb.setCell ⟨b, 2, none⟩ (.int .i64 s.m)).setCell ⟨b, 3, none⟩ (.int .i64 s.m)).setCell ⟨b, 4, none⟩ (.int .i64 0) = x := ⟨_, rfl⟩
  rw [hwa] at R1 F1
  have T := Lib.hid (tidy_any b { s with a := s.m, r := s.m, opn := 0 } bo bt wa R1 hn)
  have FA : Fr [b] w wa := (FB.out.mono (by simp)).trans F1
  replace R1 := Lib.hid R1; replace F1 := Lib.hid F1; replace FA := Lib.hid FA; replace hwa := Lib.hid hwa
  simp only [RS.cells, hw, hk, hx] at cs
  go_enter Try.func29, Try.ntmps29
  go_wp2_with fail
  rw [hwa.out]
  refine T.out.mono ?_
  rintro e w3 ⟨rfl, hnew, f3⟩
  have RN3 := (RN.news (bo := bo) (bt := bt) hnew f3).after FA.out
  obtain ⟨bo3, bt3, R3, _, _⟩ := hnew
  obtain ⟨vo3, vt3, hp3, _⟩ := R3
  have cs3 := hp3.cell
  simp only [RS.cells, RS.tidied] at cs3
  replace RN3 := Lib.hid RN3; replace f3 := Lib.hid f3; replace hp3 := Lib.hid hp3
  clear cb cs zs
  go_wp2_with fail
  refine (one_any 1 4 (s.m - 1) 0 w3).mono ?_
  rintro e w9 ⟨⟨v9, rfl, hv9⟩, f9⟩
  have V9 := Lib.hid (hv9.le (FA.out.trans f3.out).size)
  have R9 := Lib.hid (RN3.out.then f9)
  clear hv9 f9
  go_wp2_with fail
  go_ret2
  exact ⟨⟨_, rfl, V9.out⟩, R9.out⟩
theorem up_bad5 (b : Nat) (s : RS) (bo bt : Option Nat) (e : Ev) (w : World) (h : RM w b s bo bt) (hk1 : e.kind = 5) (hw : s.wt = false) (hk : s.kt = false) (hb : e.b = 0) (hx : e.a < s.r ∨ s.m < e.a) :
    Calls Try.prog 29 #[.pointer (some ⟨b, 0, none⟩), e.val] w (RonR b bo bt w s [] 5) := by
  obtain ⟨way, kind, ea, eb, ec, ed⟩ := e
  try dsimp only at hb hx hk1 ⊢
  subst hk1; subst hb
  dsimp only [Ev.val]
  obtain ⟨wb, hwb⟩ : ∃ x, w.alloc (.cells #[.int .i64 way, .int .i64 5, .int .i64 ea, .int .i64 0, .int .i64 ec, .string ed] TEv) = x := ⟨_, rfl⟩
  have PB := Pt.newA w TEv #[.int .i64 way, .int .i64 5, .int .i64 ea, .int .i64 0, .int .i64 ec, .string ed]
  rw [hwb] at PB
  have FB : Fr [] w wb := by rw [← hwb]; exact (Fr.refl [] w).alloc _
  obtain ⟨bx, hbx⟩ : ∃ x, w.heap.size = x := ⟨_, rfl⟩
  rw [hbx] at PB
  have cb := PB.cell
  have hlt : b < bx := by have := h.lt; omega
  have hR := h.fr0 FB
  obtain ⟨vo, vt, hp, ho, ht, x1, x2⟩ := h.fr0 FB
  have cs := hp.cell
  have zs := hp.free
  replace hR := Lib.hid hR; replace PB := Lib.hid PB; replace FB := Lib.hid FB; replace hp := Lib.hid hp; replace ho := Lib.hid ho; replace ht := Lib.hid ht; replace x1 := Lib.hid x1; replace x2 := Lib.hid x2
  clear h
  rcases (by omega : ea < s.r ∨ (¬ ea < s.r ∧ s.m < ea)) with c | ⟨c, c2⟩
  · have d1 : decide (ea < s.r) = true := decide_eq_true c
    simp only [RS.cells, hw, hk] at cs
    go_enter Try.func29, Try.ntmps29
    go_wp2_with fail
    go_ret2
    exact ⟨⟨_, rfl, .inl ⟨rfl, rfl⟩⟩, hR.out.rn (FB.out.mono (by simp))⟩
  · have d1 : decide (ea < s.r) = false := decide_eq_false c
    have d2 : decide (s.m < ea) = true := decide_eq_true c2
    simp only [RS.cells, hw, hk] at cs
    go_enter Try.func29, Try.ntmps29
    go_wp2_with fail
    go_ret2
    exact ⟨⟨_, rfl, .inl ⟨rfl, rfl⟩⟩, hR.out.rn (FB.out.mono (by simp))⟩
theorem up_ok5_0 (b : Nat) (s : RS) (bo bt : Option Nat) (e : Ev) (w : World) (h : RM w b s bo bt) (hk1 : e.kind = 5) (hw : s.wt = false) (hk : s.kt = false) (hb : e.b = 0) (hx : ¬ (e.a < s.r ∨ s.m < e.a)) :
    Calls Try.prog 29 #[.pointer (some ⟨b, 0, none⟩), e.val] w (RonR b bo bt w { s with wt := true, wh := 0, wn := e.a } [⟨1, 5, e.a, 0, 0, ByteArray.empty⟩] 0) := by
  obtain ⟨way, kind, ea, eb, ec, ed⟩ := e
  try dsimp only at hx hb hk1 ⊢
  subst hk1; subst hb
  dsimp only [Ev.val]
  obtain ⟨wb, hwb⟩ : ∃ x, w.alloc (.cells #[.int .i64 way, .int .i64 5, .int .i64 ea, .int .i64 0, .int .i64 ec, .string ed] TEv) = x := ⟨_, rfl⟩
  have PB := Pt.newA w TEv #[.int .i64 way, .int .i64 5, .int .i64 ea, .int .i64 0, .int .i64 ec, .string ed]
  rw [hwb] at PB
  have FB : Fr [] w wb := by rw [← hwb]; exact (Fr.refl [] w).alloc _
  obtain ⟨bx, hbx⟩ : ∃ x, w.heap.size = x := ⟨_, rfl⟩
  rw [hbx] at PB
  have cb := PB.cell
  have hlt : b < bx := by have := h.lt; omega
  have hR := h.fr0 FB
  obtain ⟨vo, vt, hp, ho, ht, x1, x2⟩ := h.fr0 FB
  have cs := hp.cell
  have zs := hp.free
  replace hR := Lib.hid hR; replace PB := Lib.hid PB; replace FB := Lib.hid FB; replace hp := Lib.hid hp; replace ho := Lib.hid ho; replace ht := Lib.hid ht; replace x1 := Lib.hid x1; replace x2 := Lib.hid x2
  clear h
  have d1 : decide (ea < s.r) = false := decide_eq_false (by omega)
  have d2 : decide (s.m < ea) = false := decide_eq_false (by omega)
  have R1 := ((hR.out.put (s' := { s with wt := true }) (j := 7) (v := .bool true) (fun _ _ => rfl) rfl rfl).put (s' := { s with wt := true, wh := 0 }) (j := 8) (v := .int .i64 0) (fun _ _ => rfl) rfl rfl).put (s' := { s with wt := true, wh := 0, wn := ea }) (j := 9) (v := .int .i64 ea) (fun _ _ => rfl) rfl rfl
  have F1 : Fr [b] wb (((wb.setCell ⟨b, 7, none⟩ (.bool true)).setCell ⟨b, 8, none⟩ (.int .i64 0)).setCell ⟨b, 9, none⟩ (.int .i64 ea)) := (((Fr.refl _ _).setCell (by simp) _).setCell (by simp) _).setCell (by simp) _
  obtain ⟨wa, hwa⟩ : ∃ x, ((wb.setCell ⟨b, 7, none⟩ (.bool true)).setCell ⟨b, 8, none⟩ (.int .i64 0)).setCell ⟨b, 9, none⟩ (.int .i64 ea) = x := ⟨_, rfl⟩
  rw [hwa] at R1 F1
  have FA : Fr [b] w wa := (FB.out.mono (by simp)).trans F1
  have cb1 := (F1.pt PB.out (by simp; omega)).cell
  have hne1 : bx ≠ b := by omega
  replace R1 := Lib.hid R1; replace F1 := Lib.hid F1; replace FA := Lib.hid FA
  simp only [RS.cells, hw, hk] at cs
  go_enter Try.func29, Try.ntmps29
  go_wp2_with fail
  refine (one_any 1 5 ea 0 wa).mono ?_
  rintro e w9 ⟨⟨v9, rfl, hv9⟩, f9⟩
  have V9 := Lib.hid (hv9.le FA.out.size)
  have R9 := Lib.hid ((R1.out.rn FA.out).then f9)
  clear hv9 f9
  go_wp2_with fail
  go_ret2
  exact ⟨⟨_, rfl, V9.out⟩, R9.out⟩
theorem up_ok5_1 (b : Nat) (s : RS) (bo bt : Option Nat) (e : Ev) (w : World) (h : RM w b s bo bt) (hk1 : e.kind = 5) (hw : s.wt = false) (hk : s.kt = false) (hb : e.b = 1)  :
    Calls Try.prog 29 #[.pointer (some ⟨b, 0, none⟩), e.val] w (RonR b bo bt w { s with wt := true, wh := 1, wn := s.m } [⟨1, 5, s.m, 1, 0, ByteArray.empty⟩] 0) := by
  obtain ⟨way, kind, ea, eb, ec, ed⟩ := e
  try dsimp only at hb hk1 ⊢
  subst hk1; subst hb
  dsimp only [Ev.val]
  obtain ⟨wb, hwb⟩ : ∃ x, w.alloc (.cells #[.int .i64 way, .int .i64 5, .int .i64 ea, .int .i64 1, .int .i64 ec, .string ed] TEv) = x := ⟨_, rfl⟩
  have PB := Pt.newA w TEv #[.int .i64 way, .int .i64 5, .int .i64 ea, .int .i64 1, .int .i64 ec, .string ed]
  rw [hwb] at PB
  have FB : Fr [] w wb := by rw [← hwb]; exact (Fr.refl [] w).alloc _
  obtain ⟨bx, hbx⟩ : ∃ x, w.heap.size = x := ⟨_, rfl⟩
  rw [hbx] at PB
  have cb := PB.cell
  have hlt : b < bx := by have := h.lt; omega
  have hR := h.fr0 FB
  obtain ⟨vo, vt, hp, ho, ht, x1, x2⟩ := h.fr0 FB
  have cs := hp.cell
  have zs := hp.free
  replace hR := Lib.hid hR; replace PB := Lib.hid PB; replace FB := Lib.hid FB; replace hp := Lib.hid hp; replace ho := Lib.hid ho; replace ht := Lib.hid ht; replace x1 := Lib.hid x1; replace x2 := Lib.hid x2
  clear h
  have R1 := ((hR.out.put (s' := { s with wt := true }) (j := 7) (v := .bool true) (fun _ _ => rfl) rfl rfl).put (s' := { s with wt := true, wh := 1 }) (j := 8) (v := .int .i64 1) (fun _ _ => rfl) rfl rfl).put (s' := { s with wt := true, wh := 1, wn := s.m }) (j := 9) (v := .int .i64 s.m) (fun _ _ => rfl) rfl rfl
  have F1 : Fr [b] wb (((wb.setCell ⟨b, 7, none⟩ (.bool true)).setCell ⟨b, 8, none⟩ (.int .i64 1)).setCell ⟨b, 9, none⟩ (.int .i64 s.m)) := (((Fr.refl _ _).setCell (by simp) _).setCell (by simp) _).setCell (by simp) _
  obtain ⟨wa, hwa⟩ : ∃ x, ((wb.setCell ⟨b, 7, none⟩ (.bool true)).setCell ⟨b, 8, none⟩ (.int .i64 1)).setCell ⟨b, 9, none⟩ (.int .i64 s.m) = x := ⟨_, rfl⟩
  rw [hwa] at R1 F1
  have FA : Fr [b] w wa := (FB.out.mono (by simp)).trans F1
  have cb1 := (F1.pt PB.out (by simp; omega)).cell
  have hne1 : bx ≠ b := by omega
  replace R1 := Lib.hid R1; replace F1 := Lib.hid F1; replace FA := Lib.hid FA
  simp only [RS.cells, hw, hk] at cs
  go_enter Try.func29, Try.ntmps29
  go_wp2_with fail
  refine (one_any 1 5 s.m 1 wa).mono ?_
  rintro e w9 ⟨⟨v9, rfl, hv9⟩, f9⟩
  have V9 := Lib.hid (hv9.le FA.out.size)
  have R9 := Lib.hid ((R1.out.rn FA.out).then f9)
  clear hv9 f9
  go_wp2_with fail
  go_ret2
  exact ⟨⟨_, rfl, V9.out⟩, R9.out⟩
theorem up_ok5_2 (b : Nat) (s : RS) (bo bt : Option Nat) (e : Ev) (w : World) (h : RM w b s bo bt) (hk1 : e.kind = 5) (hw : s.wt = false) (hk : s.kt = false) (hb : e.b = 2)  :
    Calls Try.prog 29 #[.pointer (some ⟨b, 0, none⟩), e.val] w (RonR b bo bt w { s with wt := true, wh := 2, wn := e.a } [⟨1, 5, e.a, 2, 0, ByteArray.empty⟩] 0) := by
  obtain ⟨way, kind, ea, eb, ec, ed⟩ := e
  try dsimp only at hb hk1 ⊢
  subst hk1; subst hb
  dsimp only [Ev.val]
  obtain ⟨wb, hwb⟩ : ∃ x, w.alloc (.cells #[.int .i64 way, .int .i64 5, .int .i64 ea, .int .i64 2, .int .i64 ec, .string ed] TEv) = x := ⟨_, rfl⟩
  have PB := Pt.newA w TEv #[.int .i64 way, .int .i64 5, .int .i64 ea, .int .i64 2, .int .i64 ec, .string ed]
  rw [hwb] at PB
  have FB : Fr [] w wb := by rw [← hwb]; exact (Fr.refl [] w).alloc _
  obtain ⟨bx, hbx⟩ : ∃ x, w.heap.size = x := ⟨_, rfl⟩
  rw [hbx] at PB
  have cb := PB.cell
  have hlt : b < bx := by have := h.lt; omega
  have hR := h.fr0 FB
  obtain ⟨vo, vt, hp, ho, ht, x1, x2⟩ := h.fr0 FB
  have cs := hp.cell
  have zs := hp.free
  replace hR := Lib.hid hR; replace PB := Lib.hid PB; replace FB := Lib.hid FB; replace hp := Lib.hid hp; replace ho := Lib.hid ho; replace ht := Lib.hid ht; replace x1 := Lib.hid x1; replace x2 := Lib.hid x2
  clear h
  have R1 := ((hR.out.put (s' := { s with wt := true }) (j := 7) (v := .bool true) (fun _ _ => rfl) rfl rfl).put (s' := { s with wt := true, wh := 2 }) (j := 8) (v := .int .i64 2) (fun _ _ => rfl) rfl rfl).put (s' := { s with wt := true, wh := 2, wn := ea }) (j := 9) (v := .int .i64 ea) (fun _ _ => rfl) rfl rfl
  have F1 : Fr [b] wb (((wb.setCell ⟨b, 7, none⟩ (.bool true)).setCell ⟨b, 8, none⟩ (.int .i64 2)).setCell ⟨b, 9, none⟩ (.int .i64 ea)) := (((Fr.refl _ _).setCell (by simp) _).setCell (by simp) _).setCell (by simp) _
  obtain ⟨wa, hwa⟩ : ∃ x, ((wb.setCell ⟨b, 7, none⟩ (.bool true)).setCell ⟨b, 8, none⟩ (.int .i64 2)).setCell ⟨b, 9, none⟩ (.int .i64 ea) = x := ⟨_, rfl⟩
  rw [hwa] at R1 F1
  have FA : Fr [b] w wa := (FB.out.mono (by simp)).trans F1
  have cb1 := (F1.pt PB.out (by simp; omega)).cell
  have hne1 : bx ≠ b := by omega
  replace R1 := Lib.hid R1; replace F1 := Lib.hid F1; replace FA := Lib.hid FA
  simp only [RS.cells, hw, hk] at cs
  go_enter Try.func29, Try.ntmps29
  go_wp2_with fail
  refine (one_any 1 5 ea 2 wa).mono ?_
  rintro e w9 ⟨⟨v9, rfl, hv9⟩, f9⟩
  have V9 := Lib.hid (hv9.le FA.out.size)
  have R9 := Lib.hid ((R1.out.rn FA.out).then f9)
  clear hv9 f9
  go_wp2_with fail
  go_ret2
  exact ⟨⟨_, rfl, V9.out⟩, R9.out⟩
theorem up_bad7 (b : Nat) (s : RS) (bo bt : Option Nat) (e : Ev) (w : World) (h : RM w b s bo bt) (hk1 : e.kind = 7) (hw : s.wt = false) (hk : s.kt = false) :
    Calls Try.prog 29 #[.pointer (some ⟨b, 0, none⟩), e.val] w (RonR b bo bt w s [] 8) := by
  obtain ⟨way, kind, ea, eb, ec, ed⟩ := e
  try dsimp only at hk1 ⊢
  subst hk1
  dsimp only [Ev.val]
  obtain ⟨wb, hwb⟩ : ∃ x, w.alloc (.cells #[.int .i64 way, .int .i64 7, .int .i64 ea, .int .i64 eb, .int .i64 ec, .string ed] TEv) = x := ⟨_, rfl⟩
  have PB := Pt.newA w TEv #[.int .i64 way, .int .i64 7, .int .i64 ea, .int .i64 eb, .int .i64 ec, .string ed]
  rw [hwb] at PB
  have FB : Fr [] w wb := by rw [← hwb]; exact (Fr.refl [] w).alloc _
  obtain ⟨bx, hbx⟩ : ∃ x, w.heap.size = x := ⟨_, rfl⟩
  rw [hbx] at PB
  have cb := PB.cell
  have hlt : b < bx := by have := h.lt; omega
  have hR := h.fr0 FB
  obtain ⟨vo, vt, hp, ho, ht, x1, x2⟩ := h.fr0 FB
  have cs := hp.cell
  have zs := hp.free
  replace hR := Lib.hid hR; replace PB := Lib.hid PB; replace FB := Lib.hid FB; replace hp := Lib.hid hp; replace ho := Lib.hid ho; replace ht := Lib.hid ht; replace x1 := Lib.hid x1; replace x2 := Lib.hid x2
  clear h
  simp only [RS.cells, hw, hk] at cs
  go_enter Try.func29, Try.ntmps29
  go_wp2_with fail
  go_ret2
  exact ⟨⟨_, rfl, .inl ⟨rfl, rfl⟩⟩, hR.out.rn (FB.out.mono (by simp))⟩
theorem up_far7 (b : Nat) (s : RS) (bo bt : Option Nat) (e : Ev) (w : World) (h : RM w b s bo bt) (hk1 : e.kind = 7) (hw : s.wt = false) (hk : s.kt = true) (h2 : s.kh ≠ 2) (hx : e.a ≠ s.kn) :
    Calls Try.prog 29 #[.pointer (some ⟨b, 0, none⟩), e.val] w (RonR b bo bt w s [] 5) := by
  obtain ⟨way, kind, ea, eb, ec, ed⟩ := e
  try dsimp only at hx hk1 ⊢
  subst hk1
  dsimp only [Ev.val]
  obtain ⟨wb, hwb⟩ : ∃ x, w.alloc (.cells #[.int .i64 way, .int .i64 7, .int .i64 ea, .int .i64 eb, .int .i64 ec, .string ed] TEv) = x := ⟨_, rfl⟩
  have PB := Pt.newA w TEv #[.int .i64 way, .int .i64 7, .int .i64 ea, .int .i64 eb, .int .i64 ec, .string ed]
  rw [hwb] at PB
  have FB : Fr [] w wb := by rw [← hwb]; exact (Fr.refl [] w).alloc _
  obtain ⟨bx, hbx⟩ : ∃ x, w.heap.size = x := ⟨_, rfl⟩
  rw [hbx] at PB
  have cb := PB.cell
  have hlt : b < bx := by have := h.lt; omega
  have hR := h.fr0 FB
  obtain ⟨vo, vt, hp, ho, ht, x1, x2⟩ := h.fr0 FB
  have cs := hp.cell
  have zs := hp.free
  replace hR := Lib.hid hR; replace PB := Lib.hid PB; replace FB := Lib.hid FB; replace hp := Lib.hid hp; replace ho := Lib.hid ho; replace ht := Lib.hid ht; replace x1 := Lib.hid x1; replace x2 := Lib.hid x2
  clear h
  have h2b : (s.kh != 2) = true := by simpa using h2
  have hxb : (ea != s.kn) = true := by simpa using hx
  simp only [RS.cells, hw, hk] at cs
  go_enter Try.func29, Try.ntmps29
  go_wp2_with fail
  go_quiet (fail)
  go_wp2_with fail
  go_ret2
  exact ⟨⟨_, rfl, .inl ⟨rfl, rfl⟩⟩, (hR.out.fr0 ((Fr.refl [] wb).drewN nq)).rn ((FB.out.drewN nq).mono (by simp))⟩
theorem up_ok7a (b : Nat) (s : RS) (bo bt : Option Nat) (e : Ev) (w : World) (h : RM w b s bo bt) (hk1 : e.kind = 7) (hw : s.wt = false) (hk : s.kt = true) (hn : s.own.length < 900000 ∧ s.other.length < 900000) (h2 : s.kh = 2) :
    Calls Try.prog 29 #[.pointer (some ⟨b, 0, none⟩), e.val] w (RonR b bo bt w (RS.reset { s with kt := false } s.kh e.a).tidied [⟨1, 7, e.a, s.kh, 0, ByteArray.empty⟩] 0) := by
  obtain ⟨way, kind, ea, eb, ec, ed⟩ := e
  try dsimp only at hk1 ⊢
  subst hk1
  dsimp only [Ev.val]
  obtain ⟨wb, hwb⟩ : ∃ x, w.alloc (.cells #[.int .i64 way, .int .i64 7, .int .i64 ea, .int .i64 eb, .int .i64 ec, .string ed] TEv) = x := ⟨_, rfl⟩
  have PB := Pt.newA w TEv #[.int .i64 way, .int .i64 7, .int .i64 ea, .int .i64 eb, .int .i64 ec, .string ed]
  rw [hwb] at PB
  have FB : Fr [] w wb := by rw [← hwb]; exact (Fr.refl [] w).alloc _
  obtain ⟨bx, hbx⟩ : ∃ x, w.heap.size = x := ⟨_, rfl⟩
  rw [hbx] at PB
  have cb := PB.cell
  have hlt : b < bx := by have := h.lt; omega
  have hR := h.fr0 FB
  obtain ⟨vo, vt, hp, ho, ht, x1, x2⟩ := h.fr0 FB
  have cs := hp.cell
  have zs := hp.free
  replace hR := Lib.hid hR; replace PB := Lib.hid PB; replace FB := Lib.hid FB; replace hp := Lib.hid hp; replace ho := Lib.hid ho; replace ht := Lib.hid ht; replace x1 := Lib.hid x1; replace x2 := Lib.hid x2
  clear h
  have h2b : (s.kh != 2) = false := by simpa using h2
  replace h2 := Lib.hid h2
  simp only [RS.cells, hw, hk] at cs
  go_enter Try.func29, Try.ntmps29
  go_wp2_with fail
  go_quiet (fail)
  obtain ⟨wq, hwq⟩ : ∃ x, wb.drewN nq = x := ⟨_, rfl⟩
  have FQ : Fr [] wb wq := by rw [← hwq]; exact (Fr.refl [] wb).drewN nq
  rw [hwq]
  have PBq := FQ.pt PB.out (by simp)
  have hpq := FQ.pt hp.out (by simp)
  have cbq := PBq.cell
  have csq := hpq.cell
  have zsq := hpq.free
  simp only [RS.cells] at csq
  have R1 := (hR.out.fr0 FQ).put (s' := { s with kt := false }) (j := 10) (v := .bool false) (fun _ _ => rfl) rfl rfl
  have F1 : Fr [b] wq (wq.setCell ⟨b, 10, none⟩ (.bool false)) := (Fr.refl _ _).setCell (by simp) _
  obtain ⟨wa, hwa⟩ : ∃ x, wq.setCell ⟨b, 10, none⟩ (.bool false) = x := ⟨_, rfl⟩
  rw [hwa] at R1 F1
  have T := Lib.hid (ranew_any b { s with kt := false } bo bt s.kh ea wa.drew (R1.fr0 ((Fr.refl [] wa).drew)) hn)
  have FA : Fr [b] w wa := ((FB.out.trans FQ).mono (by simp)).trans F1
  have PBa := F1.pt PBq (by simp; omega)
  have hpa := R1
  obtain ⟨voa, vta, hpa, _⟩ := hpa
  have cba := PBa.cell
  have csa := hpa.cell
  simp only [RS.cells] at csa
  have sa1 := (PBa.drew).cell 2
  have sa2 : wa.drew.cell? ⟨b, 11, none⟩ = some (.int .i64 s.kh) := hpa.drew.cell 11
  replace R1 := Lib.hid R1; replace F1 := Lib.hid F1; replace FA := Lib.hid FA; replace PBq := Lib.hid PBq; replace hpq := Lib.hid hpq; replace FQ := Lib.hid FQ; replace PBa := Lib.hid PBa; replace hpa := Lib.hid hpa
  clear cb cs zs hwq
  go_wp2_with fail
  go_region_held3 (fun w' => w'.cell? ⟨bx, 2, none⟩ = some (.int .i64 ea) ∧ w'.cell? ⟨b, 11, none⟩ = some (.int .i64 s.kh)) (first | exact ⟨sa1, sa2⟩ | exact KW.out)
    ((go_at_call 51; refine T.out.mono ?_; rintro e w3 ⟨rfl, hnew, f3⟩; have PB3 := f3.pt PBa.out.drew (by simp; omega); obtain ⟨bo3, bt3, R3, N3⟩ := hnew; have R3' := R3; obtain ⟨vo3, vt3, hp3, _⟩ := R3'; have KW : Hid (w3.cell? ⟨bx, 2, none⟩ = some (.int .i64 ea) ∧ w3.cell? ⟨b, 11, none⟩ = some (.int .i64 s.kh)) := ⟨PB3.cell 2, hp3.cell 11⟩; replace PB3 := Lib.hid PB3; replace R3 := Lib.hid R3; replace N3 := Lib.hid N3; replace hp3 := Lib.hid hp3; replace f3 := Lib.hid f3))
  have RN3 := (RN.news (bo := bo) (bt := bt) ⟨bo3, bt3, R3.out, N3.out⟩ f3.out).after (FA.out.drew)
  have cb3 := PB3.out.cell
  have cs3 := hp3.out.cell
  simp only [RS.cells, RS.tidied, RS.reset] at cs3
  have OC := Lib.hid (one_any 1 7 ea s.kh w3.drew)
  have hsz := (FA.out.drew.trans f3.out).size
  have t1 := PB3.out.drew.cell 2
  have t2 : w3.drew.cell? ⟨b, 11, none⟩ = some (.int .i64 s.kh) := hp3.out.drew.cell 11
  replace RN3 := Lib.hid RN3
  clear cbq csq zsq cba csa sa1 sa2
  go_wp2_with fail
  go_region_held3 (fun w' => w'.cell? ⟨bx, 2, none⟩ = some (.int .i64 ea) ∧ w'.cell? ⟨b, 11, none⟩ = some (.int .i64 s.kh)) (first | exact ⟨t1, t2⟩ | exact KW9.out)
    ((go_at_call 50; refine OC.out.mono ?_; rintro e w9 ⟨⟨v9, rfl, hv9⟩, f9⟩; have KW9 : Hid (w9.cell? ⟨bx, 2, none⟩ = some (.int .i64 ea) ∧ w9.cell? ⟨b, 11, none⟩ = some (.int .i64 s.kh)) := ⟨(f9.pt PB3.out.drew (by simp)).cell 2, (f9.pt hp3.out.drew (by simp)).cell 11⟩; replace hv9 := Lib.hid hv9; replace f9 := Lib.hid f9))
  have V9 := Lib.hid (hv9.out.le hsz)
  have R9 := Lib.hid (RN3.out.then (((Fr.refl [] w3).drew).trans f9.out))
  go_wp2_with fail
  go_ret2
  exact ⟨⟨_, rfl, V9.out⟩, R9.out⟩
theorem up_ok7b (b : Nat) (s : RS) (bo bt : Option Nat) (e : Ev) (w : World) (h : RM w b s bo bt) (hk1 : e.kind = 7) (hw : s.wt = false) (hk : s.kt = true) (hn : s.own.length < 900000 ∧ s.other.length < 900000) (h2 : s.kh ≠ 2) (hx : e.a = s.kn) :
    Calls Try.prog 29 #[.pointer (some ⟨b, 0, none⟩), e.val] w (RonR b bo bt w (RS.reset { s with kt := false } s.kh e.a).tidied [⟨1, 7, e.a, s.kh, 0, ByteArray.empty⟩] 0) := by
  obtain ⟨way, kind, ea, eb, ec, ed⟩ := e
  try dsimp only at hx hk1 ⊢
  subst hk1
  dsimp only [Ev.val]
  obtain ⟨wb, hwb⟩ : ∃ x, w.alloc (.cells #[.int .i64 way, .int .i64 7, .int .i64 ea, .int .i64 eb, .int .i64 ec, .string ed] TEv) = x := ⟨_, rfl⟩
  have PB := Pt.newA w TEv #[.int .i64 way, .int .i64 7, .int .i64 ea, .int .i64 eb, .int .i64 ec, .string ed]
  rw [hwb] at PB
  have FB : Fr [] w wb := by rw [← hwb]; exact (Fr.refl [] w).alloc _
  obtain ⟨bx, hbx⟩ : ∃ x, w.heap.size = x := ⟨_, rfl⟩
  rw [hbx] at PB
  have cb := PB.cell
  have hlt : b < bx := by have := h.lt; omega
  have hR := h.fr0 FB
  obtain ⟨vo, vt, hp, ho, ht, x1, x2⟩ := h.fr0 FB
  have cs := hp.cell
  have zs := hp.free
  replace hR := Lib.hid hR; replace PB := Lib.hid PB; replace FB := Lib.hid FB; replace hp := Lib.hid hp; replace ho := Lib.hid ho; replace ht := Lib.hid ht; replace x1 := Lib.hid x1; replace x2 := Lib.hid x2
  clear h
  have h2b : (s.kh != 2) = true := by simpa using h2
  have hxb : (ea != s.kn) = false := by simpa using hx
  replace hx := Lib.hid hx
  simp only [RS.cells, hw, hk] at cs
  go_enter Try.func29, Try.ntmps29
  go_wp2_with fail
  go_quiet (fail)
  obtain ⟨wq, hwq⟩ : ∃ x, wb.drewN nq = x := ⟨_, rfl⟩
  have FQ : Fr [] wb wq := by rw [← hwq]; exact (Fr.refl [] wb).drewN nq
  rw [hwq]
  have PBq := FQ.pt PB.out (by simp)
  have hpq := FQ.pt hp.out (by simp)
  have cbq := PBq.cell
  have csq := hpq.cell
  have zsq := hpq.free
  simp only [RS.cells] at csq
  have R1 := (hR.out.fr0 FQ).put (s' := { s with kt := false }) (j := 10) (v := .bool false) (fun _ _ => rfl) rfl rfl
  have F1 : Fr [b] wq (wq.setCell ⟨b, 10, none⟩ (.bool false)) := (Fr.refl _ _).setCell (by simp) _
  obtain ⟨wa, hwa⟩ : ∃ x, wq.setCell ⟨b, 10, none⟩ (.bool false) = x := ⟨_, rfl⟩
  rw [hwa] at R1 F1
  have T := Lib.hid (ranew_any b { s with kt := false } bo bt s.kh ea wa.drew (R1.fr0 ((Fr.refl [] wa).drew)) hn)
  have FA : Fr [b] w wa := ((FB.out.trans FQ).mono (by simp)).trans F1
  have PBa := F1.pt PBq (by simp; omega)
  have hpa := R1
  obtain ⟨voa, vta, hpa, _⟩ := hpa
  have cba := PBa.cell
  have csa := hpa.cell
  simp only [RS.cells] at csa
  have sa1 := (PBa.drew).cell 2
  have sa2 : wa.drew.cell? ⟨b, 11, none⟩ = some (.int .i64 s.kh) := hpa.drew.cell 11
  replace R1 := Lib.hid R1; replace F1 := Lib.hid F1; replace FA := Lib.hid FA; replace PBq := Lib.hid PBq; replace hpq := Lib.hid hpq; replace FQ := Lib.hid FQ; replace PBa := Lib.hid PBa; replace hpa := Lib.hid hpa
  clear cb cs zs hwq
  go_wp2_with fail
  go_region_held3 (fun w' => w'.cell? ⟨bx, 2, none⟩ = some (.int .i64 ea) ∧ w'.cell? ⟨b, 11, none⟩ = some (.int .i64 s.kh)) (first | exact ⟨sa1, sa2⟩ | exact KW.out)
    ((go_at_call 51; refine T.out.mono ?_; rintro e w3 ⟨rfl, hnew, f3⟩; have PB3 := f3.pt PBa.out.drew (by simp; omega); obtain ⟨bo3, bt3, R3, N3⟩ := hnew; have R3' := R3; obtain ⟨vo3, vt3, hp3, _⟩ := R3'; have KW : Hid (w3.cell? ⟨bx, 2, none⟩ = some (.int .i64 ea) ∧ w3.cell? ⟨b, 11, none⟩ = some (.int .i64 s.kh)) := ⟨PB3.cell 2, hp3.cell 11⟩; replace PB3 := Lib.hid PB3; replace R3 := Lib.hid R3; replace N3 := Lib.hid N3; replace hp3 := Lib.hid hp3; replace f3 := Lib.hid f3))
  have RN3 := (RN.news (bo := bo) (bt := bt) ⟨bo3, bt3, R3.out, N3.out⟩ f3.out).after (FA.out.drew)
  have cb3 := PB3.out.cell
  have cs3 := hp3.out.cell
  simp only [RS.cells, RS.tidied, RS.reset] at cs3
  have OC := Lib.hid (one_any 1 7 ea s.kh w3.drew)
  have hsz := (FA.out.drew.trans f3.out).size
  have t1 := PB3.out.drew.cell 2
  have t2 : w3.drew.cell? ⟨b, 11, none⟩ = some (.int .i64 s.kh) := hp3.out.drew.cell 11
  replace RN3 := Lib.hid RN3
  clear cbq csq zsq cba csa sa1 sa2
  go_wp2_with fail
  go_region_held3 (fun w' => w'.cell? ⟨bx, 2, none⟩ = some (.int .i64 ea) ∧ w'.cell? ⟨b, 11, none⟩ = some (.int .i64 s.kh)) (first | exact ⟨t1, t2⟩ | exact KW9.out)
    ((go_at_call 50; refine OC.out.mono ?_; rintro e w9 ⟨⟨v9, rfl, hv9⟩, f9⟩; have KW9 : Hid (w9.cell? ⟨bx, 2, none⟩ = some (.int .i64 ea) ∧ w9.cell? ⟨b, 11, none⟩ = some (.int .i64 s.kh)) := ⟨(f9.pt PB3.out.drew (by simp)).cell 2, (f9.pt hp3.out.drew (by simp)).cell 11⟩; replace hv9 := Lib.hid hv9; replace f9 := Lib.hid f9))
  have V9 := Lib.hid (hv9.out.le hsz)
  have R9 := Lib.hid (RN3.out.then (((Fr.refl [] w3).drew).trans f9.out))
  go_wp2_with fail
  go_ret2
  exact ⟨⟨_, rfl, V9.out⟩, R9.out⟩
end Go.Proofs.Ytjgmlnkbplgloaa
