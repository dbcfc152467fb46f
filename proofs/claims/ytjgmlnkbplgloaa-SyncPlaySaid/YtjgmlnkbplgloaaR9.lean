import Derived.Test.YtjgmlnkbplgloaaR8
namespace Go.Proofs.Ytjgmlnkbplgloaa
open Go.RowKit
set_option linter.unusedVariables false
set_option linter.unusedSimpArgs false
set_option maxHeartbeats 8000000
set_option maxRecDepth 20000
theorem EvRes.fr {B : Nat} {w w' : World} {v : Value} {l : List Ev} (h : EvRes B w v l) (hf : Fr [] w w') : EvRes B w' v l := by
  rcases h with h | ⟨C, e, h1, h2, h3, h4⟩
  · exact .inl h
  · exact .inr ⟨C, e, h1, h2, hf.pt h3 (by simp), h4⟩
theorem dn_waits (b : Nat) (s : RS) (bo bt : Option Nat) (e : Ev) (w : World) (h : RM w b s bo bt) (hw : s.wt = true) (hk : e.kind < 5) :
    Calls Try.prog 30 #[.pointer (some ⟨b, 0, none⟩), e.val] w (RbeR b bo bt w s []) := by
  obtain ⟨way, kind, ea, eb, ec, ed⟩ := e
  try dsimp only at hk ⊢
  dsimp only [Ev.val]
  obtain ⟨wb, hwb⟩ : ∃ x, w.alloc (.cells #[.int .i64 way, .int .i64 kind, .int .i64 ea, .int .i64 eb, .int .i64 ec, .string ed] TEv) = x := ⟨_, rfl⟩
  have PB := Pt.newA w TEv #[.int .i64 way, .int .i64 kind, .int .i64 ea, .int .i64 eb, .int .i64 ec, .string ed]
  rw [hwb] at PB
  have FB : Fr [] w wb := by rw [← hwb]; exact (Fr.refl [] w).alloc _
  obtain ⟨bx, hbx⟩ : ∃ x, w.heap.size = x := ⟨_, rfl⟩
  rw [hbx] at PB
  have cb := PB.cell
  have hlt : b < bx := by have := h.lt; omega
  have hR := h.fr0 FB
  obtain ⟨vo, vt, hp, ho, ht, x1, x2⟩ := h.fr0 FB
  have cs := hp.cell
  have zs := hp.free
  replace hR := Lib.hid hR; replace PB := Lib.hid PB; replace FB := Lib.hid FB; replace hp := Lib.hid hp; replace ho := Lib.hid ho; replace ht := Lib.hid ht; replace x1 := Lib.hid x1; replace x2 := Lib.hid x2
  clear h
  have d0 : decide (kind < 5) = true := decide_eq_true hk
  go_enter Try.func30, Try.ntmps30
  go_wp2_with fail
  refine (one_any 0 9 ea 0 wb).mono ?_
  rintro e w1 ⟨⟨v1, rfl, hv1⟩, f1⟩
  have F1 := FB.out.trans f1
  have V1 := hv1.le FB.out.size
  have R1 := hR.out.fr0 f1
  have PB1 := f1.pt PB.out (by simp)
  have hp1 := f1.pt hp.out (by simp)
  have ht1 := ht.out.fr f1 (by simp)
  have ho1 := ho.out.fr f1 (by simp)
  have cb1 := PB1.cell
  have cs1 := hp1.cell
  have zs1 := hp1.free
  simp only [RS.cells, hw] at cs1
  replace F1 := Lib.hid F1; replace V1 := Lib.hid V1; replace R1 := Lib.hid R1; replace PB1 := Lib.hid PB1; replace hp1 := Lib.hid hp1; replace ht1 := Lib.hid ht1; replace ho1 := Lib.hid ho1; replace f1 := Lib.hid f1
  clear hv1 cb cs zs
  go_wp2_with fail
  go_ret
  exact ⟨⟨_, rfl, .inl ⟨rfl, rfl⟩⟩, R1.out.rn (F1.out.mono (by simp))⟩
theorem dn_bad1a (b : Nat) (s : RS) (bo bt : Option Nat) (e : Ev) (w : World) (h : RM w b s bo bt) (hk1 : e.kind = 1) (hw : s.wt = false) (hx : e.a ≠ s.m) :
    Calls Try.prog 30 #[.pointer (some ⟨b, 0, none⟩), e.val] w (RbeR b bo bt w s [⟨0, 9, e.a, 0, 0, ByteArray.empty⟩]) := by
  obtain ⟨way, kind, ea, eb, ec, ed⟩ := e
  try dsimp only at hx hk1 ⊢
  subst hk1
  dsimp only [Ev.val]
  obtain ⟨wb, hwb⟩ : ∃ x, w.alloc (.cells #[.int .i64 way, .int .i64 1, .int .i64 ea, .int .i64 eb, .int .i64 ec, .string ed] TEv) = x := ⟨_, rfl⟩
  have PB := Pt.newA w TEv #[.int .i64 way, .int .i64 1, .int .i64 ea, .int .i64 eb, .int .i64 ec, .string ed]
  rw [hwb] at PB
  have FB : Fr [] w wb := by rw [← hwb]; exact (Fr.refl [] w).alloc _
  obtain ⟨bx, hbx⟩ : ∃ x, w.heap.size = x := ⟨_, rfl⟩
  rw [hbx] at PB
  have cb := PB.cell
  have hlt : b < bx := by have := h.lt; omega
  have hR := h.fr0 FB
  obtain ⟨vo, vt, hp, ho, ht, x1, x2⟩ := h.fr0 FB
  have cs := hp.cell
  have zs := hp.free
  replace hR := Lib.hid hR; replace PB := Lib.hid PB; replace FB := Lib.hid FB; replace hp := Lib.hid hp; replace ho := Lib.hid ho; replace ht := Lib.hid ht; replace x1 := Lib.hid x1; replace x2 := Lib.hid x2
  clear h
  have hxb : (ea != s.m) = true := by simpa using hx
  go_enter Try.func30, Try.ntmps30
  go_wp2_with fail
  refine (one_any 0 9 ea 0 wb).mono ?_
  rintro e w1 ⟨⟨v1, rfl, hv1⟩, f1⟩
  have F1 := FB.out.trans f1
  have V1 := hv1.le FB.out.size
  have R1 := hR.out.fr0 f1
  have PB1 := f1.pt PB.out (by simp)
  have hp1 := f1.pt hp.out (by simp)
  have ht1 := ht.out.fr f1 (by simp)
  have ho1 := ho.out.fr f1 (by simp)
  have cb1 := PB1.cell
  have cs1 := hp1.cell
  have zs1 := hp1.free
  simp only [RS.cells, hw] at cs1
  replace F1 := Lib.hid F1; replace V1 := Lib.hid V1; replace R1 := Lib.hid R1; replace PB1 := Lib.hid PB1; replace hp1 := Lib.hid hp1; replace ht1 := Lib.hid ht1; replace ho1 := Lib.hid ho1; replace f1 := Lib.hid f1
  clear hv1 cb cs zs
  go_wp2_with fail
  go_quiet (fail)
  go_wp2_with fail
  go_ret
  exact ⟨⟨_, rfl, V1.out.fr ((Fr.refl [] w1).drewN nq)⟩, (R1.out.fr0 ((Fr.refl [] w1).drewN nq)).rn ((F1.out.drewN nq).mono (by simp))⟩
theorem dn_bad1b (b : Nat) (s : RS) (bo bt : Option Nat) (e : Ev) (w : World) (h : RM w b s bo bt) (hk1 : e.kind = 1) (hw : s.wt = false) (hm : e.a = s.m) (hx : s.opn ≠ 0) :
    Calls Try.prog 30 #[.pointer (some ⟨b, 0, none⟩), e.val] w (RbeR b bo bt w s [⟨0, 9, e.a, 0, 0, ByteArray.empty⟩]) := by
  obtain ⟨way, kind, ea, eb, ec, ed⟩ := e
  try dsimp only at hm hk1 ⊢
  subst hk1
  subst hm
  dsimp only [Ev.val]
  obtain ⟨wb, hwb⟩ : ∃ x, w.alloc (.cells #[.int .i64 way, .int .i64 1, .int .i64 s.m, .int .i64 eb, .int .i64 ec, .string ed] TEv) = x := ⟨_, rfl⟩
  have PB := Pt.newA w TEv #[.int .i64 way, .int .i64 1, .int .i64 s.m, .int .i64 eb, .int .i64 ec, .string ed]
  rw [hwb] at PB
  have FB : Fr [] w wb := by rw [← hwb]; exact (Fr.refl [] w).alloc _
  obtain ⟨bx, hbx⟩ : ∃ x, w.heap.size = x := ⟨_, rfl⟩
  rw [hbx] at PB
  have cb := PB.cell
  have hlt : b < bx := by have := h.lt; omega
  have hR := h.fr0 FB
  obtain ⟨vo, vt, hp, ho, ht, x1, x2⟩ := h.fr0 FB
  have cs := hp.cell
  have zs := hp.free
  replace hR := Lib.hid hR; replace PB := Lib.hid PB; replace FB := Lib.hid FB; replace hp := Lib.hid hp; replace ho := Lib.hid ho; replace ht := Lib.hid ht; replace x1 := Lib.hid x1; replace x2 := Lib.hid x2
  clear h
  have hmb : (s.m != s.m) = false := by simp
  have hxb : (s.opn != 0) = true := by simpa using hx
  go_enter Try.func30, Try.ntmps30
  go_wp2_with fail
  refine (one_any 0 9 s.m 0 wb).mono ?_
  rintro e w1 ⟨⟨v1, rfl, hv1⟩, f1⟩
  have F1 := FB.out.trans f1
  have V1 := hv1.le FB.out.size
  have R1 := hR.out.fr0 f1
  have PB1 := f1.pt PB.out (by simp)
  have hp1 := f1.pt hp.out (by simp)
  have ht1 := ht.out.fr f1 (by simp)
  have ho1 := ho.out.fr f1 (by simp)
  have cb1 := PB1.cell
  have cs1 := hp1.cell
  have zs1 := hp1.free
  simp only [RS.cells, hw] at cs1
  replace F1 := Lib.hid F1; replace V1 := Lib.hid V1; replace R1 := Lib.hid R1; replace PB1 := Lib.hid PB1; replace hp1 := Lib.hid hp1; replace ht1 := Lib.hid ht1; replace ho1 := Lib.hid ho1; replace f1 := Lib.hid f1
  clear hv1 cb cs zs
  go_wp2_with fail
  go_quiet (fail)
  go_wp2_with fail
  go_ret
  exact ⟨⟨_, rfl, V1.out.fr ((Fr.refl [] w1).drewN nq)⟩, (R1.out.fr0 ((Fr.refl [] w1).drewN nq)).rn ((F1.out.drewN nq).mono (by simp))⟩
theorem dn_bad1c (b : Nat) (s : RS) (bo bt : Option Nat) (e : Ev) (w : World) (h : RM w b s bo bt) (hk1 : e.kind = 1) (hw : s.wt = false) (hm : e.a = s.m) (hx : s.opn = 0) (hmm : s.m = 999999) :
    Calls Try.prog 30 #[.pointer (some ⟨b, 0, none⟩), e.val] w (RbeR b bo bt w s [⟨0, 9, e.a, 0, 0, ByteArray.empty⟩]) := by
  obtain ⟨way, kind, ea, eb, ec, ed⟩ := e
  try dsimp only at hm hk1 ⊢
  subst hk1
  subst hm
  dsimp only [Ev.val]
  obtain ⟨wb, hwb⟩ : ∃ x, w.alloc (.cells #[.int .i64 way, .int .i64 1, .int .i64 s.m, .int .i64 eb, .int .i64 ec, .string ed] TEv) = x := ⟨_, rfl⟩
  have PB := Pt.newA w TEv #[.int .i64 way, .int .i64 1, .int .i64 s.m, .int .i64 eb, .int .i64 ec, .string ed]
  rw [hwb] at PB
  have FB : Fr [] w wb := by rw [← hwb]; exact (Fr.refl [] w).alloc _
  obtain ⟨bx, hbx⟩ : ∃ x, w.heap.size = x := ⟨_, rfl⟩
  rw [hbx] at PB
  have cb := PB.cell
  have hlt : b < bx := by have := h.lt; omega
  have hR := h.fr0 FB
  obtain ⟨vo, vt, hp, ho, ht, x1, x2⟩ := h.fr0 FB
  have cs := hp.cell
  have zs := hp.free
  replace hR := Lib.hid hR; replace PB := Lib.hid PB; replace FB := Lib.hid FB; replace hp := Lib.hid hp; replace ho := Lib.hid ho; replace ht := Lib.hid ht; replace x1 := Lib.hid x1; replace x2 := Lib.hid x2
  clear h
  have hmb : (s.m == 999999) = true := by simp [hmm]
  have hmb2 : (s.m != s.m) = false := by simp
  replace hmm := Lib.hid hmm
  go_enter Try.func30, Try.ntmps30
  go_wp2_with fail
  refine (one_any 0 9 s.m 0 wb).mono ?_
  rintro e w1 ⟨⟨v1, rfl, hv1⟩, f1⟩
  have F1 := FB.out.trans f1
  have V1 := hv1.le FB.out.size
  have R1 := hR.out.fr0 f1
  have PB1 := f1.pt PB.out (by simp)
  have hp1 := f1.pt hp.out (by simp)
  have ht1 := ht.out.fr f1 (by simp)
  have ho1 := ho.out.fr f1 (by simp)
  have cb1 := PB1.cell
  have cs1 := hp1.cell
  have zs1 := hp1.free
  simp only [RS.cells, hw, hx] at cs1
  replace F1 := Lib.hid F1; replace V1 := Lib.hid V1; replace R1 := Lib.hid R1; replace PB1 := Lib.hid PB1; replace hp1 := Lib.hid hp1; replace ht1 := Lib.hid ht1; replace ho1 := Lib.hid ho1; replace f1 := Lib.hid f1
  clear hv1 cb cs zs
  go_wp2_with fail
  go_quiet (fail)
  go_wp2_with fail
  go_ret
  exact ⟨⟨_, rfl, V1.out.fr ((Fr.refl [] w1).drewN nq)⟩, (R1.out.fr0 ((Fr.refl [] w1).drewN nq)).rn ((F1.out.drewN nq).mono (by simp))⟩
theorem dn_bad3a (b : Nat) (s : RS) (bo bt : Option Nat) (e : Ev) (w : World) (h : RM w b s bo bt) (hk1 : e.kind = 3) (hw : s.wt = false) (hx : e.a ≠ s.m) :
    Calls Try.prog 30 #[.pointer (some ⟨b, 0, none⟩), e.val] w (RbeR b bo bt w s [⟨0, 9, e.a, 0, 0, ByteArray.empty⟩]) := by
  obtain ⟨way, kind, ea, eb, ec, ed⟩ := e
  try dsimp only at hx hk1 ⊢
  subst hk1
  dsimp only [Ev.val]
  obtain ⟨wb, hwb⟩ : ∃ x, w.alloc (.cells #[.int .i64 way, .int .i64 3, .int .i64 ea, .int .i64 eb, .int .i64 ec, .string ed] TEv) = x := ⟨_, rfl⟩
  have PB := Pt.newA w TEv #[.int .i64 way, .int .i64 3, .int .i64 ea, .int .i64 eb, .int .i64 ec, .string ed]
  rw [hwb] at PB
  have FB : Fr [] w wb := by rw [← hwb]; exact (Fr.refl [] w).alloc _
  obtain ⟨bx, hbx⟩ : ∃ x, w.heap.size = x := ⟨_, rfl⟩
  rw [hbx] at PB
  have cb := PB.cell
  have hlt : b < bx := by have := h.lt; omega
  have hR := h.fr0 FB
  obtain ⟨vo, vt, hp, ho, ht, x1, x2⟩ := h.fr0 FB
  have cs := hp.cell
  have zs := hp.free
  replace hR := Lib.hid hR; replace PB := Lib.hid PB; replace FB := Lib.hid FB; replace hp := Lib.hid hp; replace ho := Lib.hid ho; replace ht := Lib.hid ht; replace x1 := Lib.hid x1; replace x2 := Lib.hid x2
  clear h
  have hxb : (ea != s.m) = true := by simpa using hx
  go_enter Try.func30, Try.ntmps30
  go_wp2_with fail
  refine (one_any 0 9 ea 0 wb).mono ?_
  rintro e w1 ⟨⟨v1, rfl, hv1⟩, f1⟩
  have F1 := FB.out.trans f1
  have V1 := hv1.le FB.out.size
  have R1 := hR.out.fr0 f1
  have PB1 := f1.pt PB.out (by simp)
  have hp1 := f1.pt hp.out (by simp)
  have ht1 := ht.out.fr f1 (by simp)
  have ho1 := ho.out.fr f1 (by simp)
  have cb1 := PB1.cell
  have cs1 := hp1.cell
  have zs1 := hp1.free
  simp only [RS.cells, hw] at cs1
  replace F1 := Lib.hid F1; replace V1 := Lib.hid V1; replace R1 := Lib.hid R1; replace PB1 := Lib.hid PB1; replace hp1 := Lib.hid hp1; replace ht1 := Lib.hid ht1; replace ho1 := Lib.hid ho1; replace f1 := Lib.hid f1
  clear hv1 cb cs zs
  go_wp2_with fail
  go_quiet (fail)
  go_wp2_with fail
  go_ret
  exact ⟨⟨_, rfl, V1.out.fr ((Fr.refl [] w1).drewN nq)⟩, (R1.out.fr0 ((Fr.refl [] w1).drewN nq)).rn ((F1.out.drewN nq).mono (by simp))⟩
theorem dn_bad3b (b : Nat) (s : RS) (bo bt : Option Nat) (e : Ev) (w : World) (h : RM w b s bo bt) (hk1 : e.kind = 3) (hw : s.wt = false) (hm : e.a = s.m) (hx : s.opn ≠ 0) :
    Calls Try.prog 30 #[.pointer (some ⟨b, 0, none⟩), e.val] w (RbeR b bo bt w s [⟨0, 9, e.a, 0, 0, ByteArray.empty⟩]) := by
  obtain ⟨way, kind, ea, eb, ec, ed⟩ := e
  try dsimp only at hm hk1 ⊢
  subst hk1
  subst hm
  dsimp only [Ev.val]
  obtain ⟨wb, hwb⟩ : ∃ x, w.alloc (.cells #[.int .i64 way, .int .i64 3, .int .i64 s.m, .int .i64 eb, .int .i64 ec, .string ed] TEv) = x := ⟨_, rfl⟩
  have PB := Pt.newA w TEv #[.int .i64 way, .int .i64 3, .int .i64 s.m, .int .i64 eb, .int .i64 ec, .string ed]
  rw [hwb] at PB
  have FB : Fr [] w wb := by rw [← hwb]; exact (Fr.refl [] w).alloc _
  obtain ⟨bx, hbx⟩ : ∃ x, w.heap.size = x := ⟨_, rfl⟩
  rw [hbx] at PB
  have cb := PB.cell
  have hlt : b < bx := by have := h.lt; omega
  have hR := h.fr0 FB
  obtain ⟨vo, vt, hp, ho, ht, x1, x2⟩ := h.fr0 FB
  have cs := hp.cell
  have zs := hp.free
  replace hR := Lib.hid hR; replace PB := Lib.hid PB; replace FB := Lib.hid FB; replace hp := Lib.hid hp; replace ho := Lib.hid ho; replace ht := Lib.hid ht; replace x1 := Lib.hid x1; replace x2 := Lib.hid x2
  clear h
  have hmb : (s.m != s.m) = false := by simp
  have hxb : (s.opn != 0) = true := by simpa using hx
  go_enter Try.func30, Try.ntmps30
  go_wp2_with fail
  refine (one_any 0 9 s.m 0 wb).mono ?_
  rintro e w1 ⟨⟨v1, rfl, hv1⟩, f1⟩
  have F1 := FB.out.trans f1
  have V1 := hv1.le FB.out.size
  have R1 := hR.out.fr0 f1
  have PB1 := f1.pt PB.out (by simp)
  have hp1 := f1.pt hp.out (by simp)
  have ht1 := ht.out.fr f1 (by simp)
  have ho1 := ho.out.fr f1 (by simp)
  have cb1 := PB1.cell
  have cs1 := hp1.cell
  have zs1 := hp1.free
  simp only [RS.cells, hw] at cs1
  replace F1 := Lib.hid F1; replace V1 := Lib.hid V1; replace R1 := Lib.hid R1; replace PB1 := Lib.hid PB1; replace hp1 := Lib.hid hp1; replace ht1 := Lib.hid ht1; replace ho1 := Lib.hid ho1; replace f1 := Lib.hid f1
  clear hv1 cb cs zs
  go_wp2_with fail
  go_quiet (fail)
  go_wp2_with fail
  go_ret
  exact ⟨⟨_, rfl, V1.out.fr ((Fr.refl [] w1).drewN nq)⟩, (R1.out.fr0 ((Fr.refl [] w1).drewN nq)).rn ((F1.out.drewN nq).mono (by simp))⟩
theorem dn_bad3c (b : Nat) (s : RS) (bo bt : Option Nat) (e : Ev) (w : World) (h : RM w b s bo bt) (hk1 : e.kind = 3) (hw : s.wt = false) (hm : e.a = s.m) (hx : s.opn = 0) (hmm : s.m = 999999) :
    Calls Try.prog 30 #[.pointer (some ⟨b, 0, none⟩), e.val] w (RbeR b bo bt w s [⟨0, 9, e.a, 0, 0, ByteArray.empty⟩]) := by
  obtain ⟨way, kind, ea, eb, ec, ed⟩ := e
  try dsimp only at hm hk1 ⊢
  subst hk1
  subst hm
  dsimp only [Ev.val]
  obtain ⟨wb, hwb⟩ : ∃ x, w.alloc (.cells #[.int .i64 way, .int .i64 3, .int .i64 s.m, .int .i64 eb, .int .i64 ec, .string ed] TEv) = x := ⟨_, rfl⟩
  have PB := Pt.newA w TEv #[.int .i64 way, .int .i64 3, .int .i64 s.m, .int .i64 eb, .int .i64 ec, .string ed]
  rw [hwb] at PB
  have FB : Fr [] w wb := by rw [← hwb]; exact (Fr.refl [] w).alloc _
  obtain ⟨bx, hbx⟩ : ∃ x, w.heap.size = x := ⟨_, rfl⟩
  rw [hbx] at PB
  have cb := PB.cell
  have hlt : b < bx := by have := h.lt; omega
  have hR := h.fr0 FB
  obtain ⟨vo, vt, hp, ho, ht, x1, x2⟩ := h.fr0 FB
  have cs := hp.cell
  have zs := hp.free
  replace hR := Lib.hid hR; replace PB := Lib.hid PB; replace FB := Lib.hid FB; replace hp := Lib.hid hp; replace ho := Lib.hid ho; replace ht := Lib.hid ht; replace x1 := Lib.hid x1; replace x2 := Lib.hid x2
  clear h
  have hmb : (s.m == 999999) = true := by simp [hmm]
  have hmb2 : (s.m != s.m) = false := by simp
  replace hmm := Lib.hid hmm
  go_enter Try.func30, Try.ntmps30
  go_wp2_with fail
  refine (one_any 0 9 s.m 0 wb).mono ?_
  rintro e w1 ⟨⟨v1, rfl, hv1⟩, f1⟩
  have F1 := FB.out.trans f1
  have V1 := hv1.le FB.out.size
  have R1 := hR.out.fr0 f1
  have PB1 := f1.pt PB.out (by simp)
  have hp1 := f1.pt hp.out (by simp)
  have ht1 := ht.out.fr f1 (by simp)
  have ho1 := ho.out.fr f1 (by simp)
  have cb1 := PB1.cell
  have cs1 := hp1.cell
  have zs1 := hp1.free
  simp only [RS.cells, hw, hx] at cs1
  replace F1 := Lib.hid F1; replace V1 := Lib.hid V1; replace R1 := Lib.hid R1; replace PB1 := Lib.hid PB1; replace hp1 := Lib.hid hp1; replace ht1 := Lib.hid ht1; replace ho1 := Lib.hid ho1; replace f1 := Lib.hid f1
  clear hv1 cb cs zs
  go_wp2_with fail
  go_quiet (fail)
  go_wp2_with fail
  go_ret
  exact ⟨⟨_, rfl, V1.out.fr ((Fr.refl [] w1).drewN nq)⟩, (R1.out.fr0 ((Fr.refl [] w1).drewN nq)).rn ((F1.out.drewN nq).mono (by simp))⟩
theorem dn_ok3 (b : Nat) (s : RS) (bo bt : Option Nat) (e : Ev) (w : World) (h : RM w b s bo bt) (hk1 : e.kind = 3) (hw : s.wt = false) (hm : e.a = s.m) (hx : s.opn = 0) (hmm : 0 ≤ s.m ∧ s.m < 999999) :
    Calls Try.prog 30 #[.pointer (some ⟨b, 0, none⟩), e.val] w (RbeR b bo bt w { s with m := s.m + 1, opn := 2 } [⟨0, 3, e.a, 0, 0, ByteArray.empty⟩]) := by
  obtain ⟨way, kind, ea, eb, ec, ed⟩ := e
  try dsimp only at hm hk1 ⊢
  subst hk1
  subst hm
  dsimp only [Ev.val]
  obtain ⟨wb, hwb⟩ : ∃ x, w.alloc (.cells #[.int .i64 way, .int .i64 3, .int .i64 s.m, .int .i64 eb, .int .i64 ec, .string ed] TEv) = x := ⟨_, rfl⟩
  have PB := Pt.newA w TEv #[.int .i64 way, .int .i64 3, .int .i64 s.m, .int .i64 eb, .int .i64 ec, .string ed]
  rw [hwb] at PB
  have FB : Fr [] w wb := by rw [← hwb]; exact (Fr.refl [] w).alloc _
  obtain ⟨bx, hbx⟩ : ∃ x, w.heap.size = x := ⟨_, rfl⟩
  rw [hbx] at PB
  have cb := PB.cell
  have hlt : b < bx := by have := h.lt; omega
  have hR := h.fr0 FB
  obtain ⟨vo, vt, hp, ho, ht, x1, x2⟩ := h.fr0 FB
  have cs := hp.cell
  have zs := hp.free
  replace hR := Lib.hid hR; replace PB := Lib.hid PB; replace FB := Lib.hid FB; replace hp := Lib.hid hp; replace ho := Lib.hid ho; replace ht := Lib.hid ht; replace x1 := Lib.hid x1; replace x2 := Lib.hid x2
  clear h
  have hmb : (s.m == 999999) = false := by rw [beq_eq_false_iff_ne]; omega
  have hmb2 : (s.m != s.m) = false := by simp
  go_enter Try.func30, Try.ntmps30
  go_wp2_with fail
  refine (one_any 0 9 s.m 0 wb).mono ?_
  rintro e w1 ⟨⟨v1, rfl, hv1⟩, f1⟩
  have F1 := FB.out.trans f1
  have V1 := hv1.le FB.out.size
  have R1 := hR.out.fr0 f1
  have PB1 := f1.pt PB.out (by simp)
  have hp1 := f1.pt hp.out (by simp)
  have ht1 := ht.out.fr f1 (by simp)
  have ho1 := ho.out.fr f1 (by simp)
  have cb1 := PB1.cell
  have cs1 := hp1.cell
  have zs1 := hp1.free
  simp only [RS.cells, hw, hx] at cs1
  replace F1 := Lib.hid F1; replace V1 := Lib.hid V1; replace R1 := Lib.hid R1; replace PB1 := Lib.hid PB1; replace hp1 := Lib.hid hp1; replace ht1 := Lib.hid ht1; replace ho1 := Lib.hid ho1; replace f1 := Lib.hid f1
  clear hv1 cb cs zs
  go_wp2_with fail
  go_quiet (fail)
  obtain ⟨wq, hwq⟩ : ∃ x, w1.drewN nq = x := ⟨_, rfl⟩
  have FQ : Fr [] w1 wq := by rw [← hwq]; exact (Fr.refl [] w1).drewN nq
  rw [hwq]
  have Rq := R1.out.fr0 FQ
  have PBq := FQ.pt PB1.out (by simp)
  have hpq := FQ.pt hp1.out (by simp)
  have cbq := PBq.cell
  have csq := hpq.cell
  have zsq := hpq.free
  simp only [RS.cells, hw, hx] at csq
  have F1q := F1.out.trans FQ
  replace Rq := Lib.hid Rq; replace PBq := Lib.hid PBq; replace hpq := Lib.hid hpq; replace FQ := Lib.hid FQ; replace F1q := Lib.hid F1q
  clear cb1 cs1 zs1 hwq
  have R2 := (Rq.out.put (s' := { s with opn := 2 }) (j := 4) (v := .int .i64 2) (fun _ _ => rfl) rfl rfl).put (s' := { s with m := s.m + 1, opn := 2 }) (j := 1) (v := .int .i64 (s.m + 1)) (fun _ _ => rfl) rfl rfl
  have F2 : Fr [b] wq ((wq.setCell ⟨b, 4, none⟩ (.int .i64 2)).setCell ⟨b, 1, none⟩ (.int .i64 (s.m + 1))) := ((Fr.refl _ _).setCell (by simp) _).setCell (by simp) _
  obtain ⟨wa, hwa⟩ : ∃ x, (wq.setCell ⟨b, 4, none⟩ (.int .i64 2)).setCell ⟨b, 1, none⟩ (.int .i64 (s.m + 1)) = x := ⟨_, rfl⟩
  rw [hwa] at R2 F2
  have FA : Fr [b] w wa := (F1q.out.mono (by simp)).trans F2
  have cba := (F2.pt PBq.out (by simp; omega)).cell
  have hne1 : bx ≠ b := by omega
  have hne2 : b ≠ bx := by omega
  replace R2 := Lib.hid R2; replace F2 := Lib.hid F2; replace FA := Lib.hid FA
  go_wp2_with fail
  refine (one_any 0 3 s.m 0 wa).mono ?_
  rintro e w9 ⟨⟨v9, rfl, hv9⟩, f9⟩
  have V9 := Lib.hid (hv9.le FA.out.size)
  have R9 := Lib.hid ((R2.out.rn FA.out).then f9)
  clear hv9 f9
  go_wp2_with fail
  go_ret
  exact ⟨⟨_, rfl, V9.out⟩, R9.out⟩
theorem dn_bad2a (b : Nat) (s : RS) (bo bt : Option Nat) (e : Ev) (w : World) (h : RM w b s bo bt) (hk1 : e.kind = 2) (hw : s.wt = false) (hn : s.own.length < 900000 ∧ s.other.length < 900000) (hx : e.a < s.a) :
    Calls Try.prog 30 #[.pointer (some ⟨b, 0, none⟩), e.val] w (RbeR b bo bt w s [⟨0, 9, e.a, 0, 0, ByteArray.empty⟩]) := by
  obtain ⟨way, kind, ea, eb, ec, ed⟩ := e
  try dsimp only at  hx hk1 ⊢
  subst hk1
  dsimp only [Ev.val]
  obtain ⟨wb, hwb⟩ : ∃ x, w.alloc (.cells #[.int .i64 way, .int .i64 2, .int .i64 ea, .int .i64 eb, .int .i64 ec, .string ed] TEv) = x := ⟨_, rfl⟩
  have PB := Pt.newA w TEv #[.int .i64 way, .int .i64 2, .int .i64 ea, .int .i64 eb, .int .i64 ec, .string ed]
  rw [hwb] at PB
  have FB : Fr [] w wb := by rw [← hwb]; exact (Fr.refl [] w).alloc _
  obtain ⟨bx, hbx⟩ : ∃ x, w.heap.size = x := ⟨_, rfl⟩
  rw [hbx] at PB
  have cb := PB.cell
  have hlt : b < bx := by have := h.lt; omega
  have hR := h.fr0 FB
  obtain ⟨vo, vt, hp, ho, ht, x1, x2⟩ := h.fr0 FB
  have cs := hp.cell
  have zs := hp.free
  replace hR := Lib.hid hR; replace PB := Lib.hid PB; replace FB := Lib.hid FB; replace hp := Lib.hid hp; replace ho := Lib.hid ho; replace ht := Lib.hid ht; replace x1 := Lib.hid x1; replace x2 := Lib.hid x2
  clear h
  have d1 : decide (ea < s.a) = true := decide_eq_true hx
  go_enter Try.func30, Try.ntmps30
  go_wp2_with fail
  refine (one_any 0 9 ea 0 wb).mono ?_
  rintro e w1 ⟨⟨v1, rfl, hv1⟩, f1⟩
  have F1 := FB.out.trans f1
  have V1 := hv1.le FB.out.size
  have R1 := hR.out.fr0 f1
  have PB1 := f1.pt PB.out (by simp)
  have hp1 := f1.pt hp.out (by simp)
  have ht1 := ht.out.fr f1 (by simp)
  have ho1 := ho.out.fr f1 (by simp)
  have cb1 := PB1.cell
  have cs1 := hp1.cell
  have zs1 := hp1.free
  simp only [RS.cells, hw] at cs1
  replace F1 := Lib.hid F1; replace V1 := Lib.hid V1; replace R1 := Lib.hid R1; replace PB1 := Lib.hid PB1; replace hp1 := Lib.hid hp1; replace ht1 := Lib.hid ht1; replace ho1 := Lib.hid ho1; replace f1 := Lib.hid f1
  clear hv1 cb cs zs
  go_wp2_with fail
  go_quiet (fail)
  go_wp2_with fail
  go_ret
  exact ⟨⟨_, rfl, V1.out.fr ((Fr.refl [] w1).drewN nq)⟩, (R1.out.fr0 ((Fr.refl [] w1).drewN nq)).rn ((F1.out.drewN nq).mono (by simp))⟩
theorem dn_bad2b (b : Nat) (s : RS) (bo bt : Option Nat) (e : Ev) (w : World) (h : RM w b s bo bt) (hk1 : e.kind = 2) (hw : s.wt = false) (hn : s.own.length < 900000 ∧ s.other.length < 900000) (hx0 : ¬ e.a < s.a) (hx : s.m ≤ e.a) :
    Calls Try.prog 30 #[.pointer (some ⟨b, 0, none⟩), e.val] w (RbeR b bo bt w s [⟨0, 9, e.a, 0, 0, ByteArray.empty⟩]) := by
  obtain ⟨way, kind, ea, eb, ec, ed⟩ := e
  try dsimp only at hx0 hx hk1 ⊢
  subst hk1
  dsimp only [Ev.val]
  obtain ⟨wb, hwb⟩ : ∃ x, w.alloc (.cells #[.int .i64 way, .int .i64 2, .int .i64 ea, .int .i64 eb, .int .i64 ec, .string ed] TEv) = x := ⟨_, rfl⟩
  have PB := Pt.newA w TEv #[.int .i64 way, .int .i64 2, .int .i64 ea, .int .i64 eb, .int .i64 ec, .string ed]
  rw [hwb] at PB
  have FB : Fr [] w wb := by rw [← hwb]; exact (Fr.refl [] w).alloc _
  obtain ⟨bx, hbx⟩ : ∃ x, w.heap.size = x := ⟨_, rfl⟩
  rw [hbx] at PB
  have cb := PB.cell
  have hlt : b < bx := by have := h.lt; omega
  have hR := h.fr0 FB
  obtain ⟨vo, vt, hp, ho, ht, x1, x2⟩ := h.fr0 FB
  have cs := hp.cell
  have zs := hp.free
  replace hR := Lib.hid hR; replace PB := Lib.hid PB; replace FB := Lib.hid FB; replace hp := Lib.hid hp; replace ho := Lib.hid ho; replace ht := Lib.hid ht; replace x1 := Lib.hid x1; replace x2 := Lib.hid x2
  clear h
  have d1 : decide (ea < s.a) = false := decide_eq_false hx0
  have d2 : decide (s.m ≤ ea) = true := decide_eq_true hx
  go_enter Try.func30, Try.ntmps30
  go_wp2_with fail
  refine (one_any 0 9 ea 0 wb).mono ?_
  rintro e w1 ⟨⟨v1, rfl, hv1⟩, f1⟩
  have F1 := FB.out.trans f1
  have V1 := hv1.le FB.out.size
  have R1 := hR.out.fr0 f1
  have PB1 := f1.pt PB.out (by simp)
  have hp1 := f1.pt hp.out (by simp)
  have ht1 := ht.out.fr f1 (by simp)
  have ho1 := ho.out.fr f1 (by simp)
  have cb1 := PB1.cell
  have cs1 := hp1.cell
  have zs1 := hp1.free
  simp only [RS.cells, hw] at cs1
  replace F1 := Lib.hid F1; replace V1 := Lib.hid V1; replace R1 := Lib.hid R1; replace PB1 := Lib.hid PB1; replace hp1 := Lib.hid hp1; replace ht1 := Lib.hid ht1; replace ho1 := Lib.hid ho1; replace f1 := Lib.hid f1
  clear hv1 cb cs zs
  go_wp2_with fail
  go_quiet (fail)
  go_wp2_with fail
  go_ret
  exact ⟨⟨_, rfl, V1.out.fr ((Fr.refl [] w1).drewN nq)⟩, (R1.out.fr0 ((Fr.refl [] w1).drewN nq)).rn ((F1.out.drewN nq).mono (by simp))⟩
theorem dn_bad2c (b : Nat) (s : RS) (bo bt : Option Nat) (e : Ev) (w : World) (h : RM w b s bo bt) (hk1 : e.kind = 2) (hw : s.wt = false) (hn : s.own.length < 900000 ∧ s.other.length < 900000) (hx0 : ¬ e.a < s.a) (hx1 : ¬ s.m ≤ e.a) (hx : e.a ∉ s.own) :
    Calls Try.prog 30 #[.pointer (some ⟨b, 0, none⟩), e.val] w (RbeR b bo bt w s [⟨0, 9, e.a, 0, 0, ByteArray.empty⟩]) := by
  obtain ⟨way, kind, ea, eb, ec, ed⟩ := e
  try dsimp only at hx0 hx1 hx hk1 ⊢
  subst hk1
  dsimp only [Ev.val]
  obtain ⟨wb, hwb⟩ : ∃ x, w.alloc (.cells #[.int .i64 way, .int .i64 2, .int .i64 ea, .int .i64 eb, .int .i64 ec, .string ed] TEv) = x := ⟨_, rfl⟩
  have PB := Pt.newA w TEv #[.int .i64 way, .int .i64 2, .int .i64 ea, .int .i64 eb, .int .i64 ec, .string ed]
  rw [hwb] at PB
  have FB : Fr [] w wb := by rw [← hwb]; exact (Fr.refl [] w).alloc _
  obtain ⟨bx, hbx⟩ : ∃ x, w.heap.size = x := ⟨_, rfl⟩
  rw [hbx] at PB
  have cb := PB.cell
  have hlt : b < bx := by have := h.lt; omega
  have hR := h.fr0 FB
  obtain ⟨vo, vt, hp, ho, ht, x1, x2⟩ := h.fr0 FB
  have cs := hp.cell
  have zs := hp.free
  replace hR := Lib.hid hR; replace PB := Lib.hid PB; replace FB := Lib.hid FB; replace hp := Lib.hid hp; replace ho := Lib.hid ho; replace ht := Lib.hid ht; replace x1 := Lib.hid x1; replace x2 := Lib.hid x2
  clear h
  have d1 : decide (ea < s.a) = false := decide_eq_false hx0
  have d2 : decide (s.m ≤ ea) = false := decide_eq_false hx1
  replace hx := Lib.hid hx
  go_enter Try.func30, Try.ntmps30
  go_wp2_with fail
  refine (one_any 0 9 ea 0 wb).mono ?_
  rintro e w1 ⟨⟨v1, rfl, hv1⟩, f1⟩
  have F1 := FB.out.trans f1
  have V1 := hv1.le FB.out.size
  have R1 := hR.out.fr0 f1
  have PB1 := f1.pt PB.out (by simp)
  have hp1 := f1.pt hp.out (by simp)
  have ht1 := ht.out.fr f1 (by simp)
  have ho1 := ho.out.fr f1 (by simp)
  have cb1 := PB1.cell
  have cs1 := hp1.cell
  have zs1 := hp1.free
  simp only [RS.cells, hw] at cs1
  replace F1 := Lib.hid F1; replace V1 := Lib.hid V1; replace R1 := Lib.hid R1; replace PB1 := Lib.hid PB1; replace hp1 := Lib.hid hp1; replace ht1 := Lib.hid ht1; replace ho1 := Lib.hid ho1; replace f1 := Lib.hid f1
  clear hv1 cb cs zs
  have HC := Lib.hid (fun k => has_any vo s.own ea (w1.drewN k) (ho1.out.fr ((Fr.refl [] w1).drewN k) (by simp)).ir0 (by omega))
  rw [decide_eq_false hx.out] at HC
  go_wp2_with fail
  go_quiet (first | (go_at_call 48; exact Calls.quiet_of_same ((HC.out _).mono fun _ _ h => ⟨h.1, h.2.symm⟩)))
  go_wp2_with fail
  go_ret
  exact ⟨⟨_, rfl, V1.out.fr ((Fr.refl [] w1).drewN nq)⟩, (R1.out.fr0 ((Fr.refl [] w1).drewN nq)).rn ((F1.out.drewN nq).mono (by simp))⟩
theorem dn_ok2 (b : Nat) (s : RS) (bo bt : Option Nat) (e : Ev) (w : World) (h : RM w b s bo bt) (hk1 : e.kind = 2) (hw : s.wt = false) (hn : s.own.length < 900000 ∧ s.other.length < 900000) (h0 : 0 ≤ e.a ∧ e.a ≤ 999999) (hx0 : ¬ e.a < s.a) (hx1 : ¬ s.m ≤ e.a) (hx : e.a ∈ s.own) :
    Calls Try.prog 30 #[.pointer (some ⟨b, 0, none⟩), e.val] w (RbeR b bo bt w (RS.tidied { s with a := e.a + 1 }) [⟨0, 2, e.a, 0, 0, ByteArray.empty⟩]) := by
  obtain ⟨way, kind, ea, eb, ec, ed⟩ := e
  try dsimp only at h0 hx0 hx1 hx hk1 ⊢
  subst hk1
  dsimp only [Ev.val]
  obtain ⟨wb, hwb⟩ : ∃ x, w.alloc (.cells #[.int .i64 way, .int .i64 2, .int .i64 ea, .int .i64 eb, .int .i64 ec, .string ed] TEv) = x := ⟨_, rfl⟩
  have PB := Pt.newA w TEv #[.int .i64 way, .int .i64 2, .int .i64 ea, .int .i64 eb, .int .i64 ec, .string ed]
  rw [hwb] at PB
  have FB : Fr [] w wb := by rw [← hwb]; exact (Fr.refl [] w).alloc _
  obtain ⟨bx, hbx⟩ : ∃ x, w.heap.size = x := ⟨_, rfl⟩
  rw [hbx] at PB
  have cb := PB.cell
  have hlt : b < bx := by have := h.lt; omega
  have hR := h.fr0 FB
  obtain ⟨vo, vt, hp, ho, ht, x1, x2⟩ := h.fr0 FB
  have cs := hp.cell
  have zs := hp.free
  replace hR := Lib.hid hR; replace PB := Lib.hid PB; replace FB := Lib.hid FB; replace hp := Lib.hid hp; replace ho := Lib.hid ho; replace ht := Lib.hid ht; replace x1 := Lib.hid x1; replace x2 := Lib.hid x2
  clear h
  have d1 : decide (ea < s.a) = false := decide_eq_false hx0
  have d2 : decide (s.m ≤ ea) = false := decide_eq_false hx1
  replace hx := Lib.hid hx
  go_enter Try.func30, Try.ntmps30
  go_wp2_with fail
  refine (one_any 0 9 ea 0 wb).mono ?_
  rintro e w1 ⟨⟨v1, rfl, hv1⟩, f1⟩
  have F1 := FB.out.trans f1
  have V1 := hv1.le FB.out.size
  have R1 := hR.out.fr0 f1
  have PB1 := f1.pt PB.out (by simp)
  have hp1 := f1.pt hp.out (by simp)
  have ht1 := ht.out.fr f1 (by simp)
  have ho1 := ho.out.fr f1 (by simp)
  have cb1 := PB1.cell
  have cs1 := hp1.cell
  have zs1 := hp1.free
  simp only [RS.cells, hw] at cs1
  replace F1 := Lib.hid F1; replace V1 := Lib.hid V1; replace R1 := Lib.hid R1; replace PB1 := Lib.hid PB1; replace hp1 := Lib.hid hp1; replace ht1 := Lib.hid ht1; replace ho1 := Lib.hid ho1; replace f1 := Lib.hid f1
  clear hv1 cb cs zs
  have HC := Lib.hid (fun k => has_any vo s.own ea (w1.drewN k) (ho1.out.fr ((Fr.refl [] w1).drewN k) (by simp)).ir0 (by omega))
  rw [decide_eq_true hx.out] at HC
  go_wp2_with fail
  go_quiet (first | (go_at_call 48; exact Calls.quiet_of_same ((HC.out _).mono fun _ _ h => ⟨h.1, h.2.symm⟩)))
  obtain ⟨wq, hwq⟩ : ∃ x, w1.drewN nq = x := ⟨_, rfl⟩
  have FQ : Fr [] w1 wq := by rw [← hwq]; exact (Fr.refl [] w1).drewN nq
  rw [hwq]
  have Rq := R1.out.fr0 FQ
  have PBq := FQ.pt PB1.out (by simp)
  have hpq := FQ.pt hp1.out (by simp)
  have cbq := PBq.cell
  have csq := hpq.cell
  have zsq := hpq.free
  simp only [RS.cells, hw] at csq
  have F1q := F1.out.trans FQ
  replace Rq := Lib.hid Rq; replace PBq := Lib.hid PBq; replace hpq := Lib.hid hpq; replace FQ := Lib.hid FQ; replace F1q := Lib.hid F1q
  clear cb1 cs1 zs1 hwq
  have R2 := Rq.out.put (s' := { s with a := ea + 1 }) (j := 2) (v := .int .i64 (ea + 1)) (fun _ _ => rfl) rfl rfl
  have F2 : Fr [b] wq (wq.setCell ⟨b, 2, none⟩ (.int .i64 (ea + 1))) := (Fr.refl _ _).setCell (by simp) _
  obtain ⟨wa, hwa⟩ : ∃ x, wq.setCell ⟨b, 2, none⟩ (.int .i64 (ea + 1)) = x := ⟨_, rfl⟩
  rw [hwa] at R2 F2
  have T := Lib.hid (tidy_any b { s with a := ea + 1 } bo bt wa R2 hn)
  have FA : Fr [b] w wa := (F1q.out.mono (by simp)).trans F2
  have PBa := F2.pt PBq.out (by simp; omega)
  replace R2 := Lib.hid R2; replace F2 := Lib.hid F2; replace FA := Lib.hid FA; replace PBa := Lib.hid PBa
  go_wp2_with fail
  refine T.out.mono ?_
  rintro e w3 ⟨rfl, hnew, f3⟩
  have RN3 := (RN.news (bo := bo) (bt := bt) hnew f3).after FA.out
  have PB3 := f3.pt PBa.out (by simp; omega)
  have cb3 := PB3.cell
  replace RN3 := Lib.hid RN3; replace PB3 := Lib.hid PB3; replace f3 := Lib.hid f3; replace hnew := Lib.hid hnew
  clear cbq csq zsq
  go_wp2_with fail
  refine (one_any 0 2 ea 0 w3).mono ?_
  rintro e w9 ⟨⟨v9, rfl, hv9⟩, f9⟩
  have V9 := Lib.hid (hv9.le (FA.out.trans f3.out).size)
  have R9 := Lib.hid (RN3.out.then f9)
  clear hv9 f9
  go_wp2_with fail
  go_ret
  exact ⟨⟨_, rfl, V9.out⟩, R9.out⟩
theorem dn_bad4 (b : Nat) (s : RS) (bo bt : Option Nat) (e : Ev) (w : World) (h : RM w b s bo bt) (hk1 : e.kind = 4) (hw : s.wt = false) (hx : s.opn ≠ 1) :
    Calls Try.prog 30 #[.pointer (some ⟨b, 0, none⟩), e.val] w (RbeR b bo bt w s [⟨0, 9, e.a, 0, 0, ByteArray.empty⟩]) := by
  obtain ⟨way, kind, ea, eb, ec, ed⟩ := e
  try dsimp only at hk1 ⊢
  subst hk1
  dsimp only [Ev.val]
  obtain ⟨wb, hwb⟩ : ∃ x, w.alloc (.cells #[.int .i64 way, .int .i64 4, .int .i64 ea, .int .i64 eb, .int .i64 ec, .string ed] TEv) = x := ⟨_, rfl⟩
  have PB := Pt.newA w TEv #[.int .i64 way, .int .i64 4, .int .i64 ea, .int .i64 eb, .int .i64 ec, .string ed]
  rw [hwb] at PB
  have FB : Fr [] w wb := by rw [← hwb]; exact (Fr.refl [] w).alloc _
  obtain ⟨bx, hbx⟩ : ∃ x, w.heap.size = x := ⟨_, rfl⟩
  rw [hbx] at PB
  have cb := PB.cell
  have hlt : b < bx := by have := h.lt; omega
  have hR := h.fr0 FB
  obtain ⟨vo, vt, hp, ho, ht, x1, x2⟩ := h.fr0 FB
  have cs := hp.cell
  have zs := hp.free
  replace hR := Lib.hid hR; replace PB := Lib.hid PB; replace FB := Lib.hid FB; replace hp := Lib.hid hp; replace ho := Lib.hid ho; replace ht := Lib.hid ht; replace x1 := Lib.hid x1; replace x2 := Lib.hid x2
  clear h
  have hxb : (s.opn != 1) = true := by simpa using hx
  go_enter Try.func30, Try.ntmps30
  go_wp2_with fail
  refine (one_any 0 9 ea 0 wb).mono ?_
  rintro e w1 ⟨⟨v1, rfl, hv1⟩, f1⟩
  have F1 := FB.out.trans f1
  have V1 := hv1.le FB.out.size
  have R1 := hR.out.fr0 f1
  have PB1 := f1.pt PB.out (by simp)
  have hp1 := f1.pt hp.out (by simp)
  have ht1 := ht.out.fr f1 (by simp)
  have ho1 := ho.out.fr f1 (by simp)
  have cb1 := PB1.cell
  have cs1 := hp1.cell
  have zs1 := hp1.free
  simp only [RS.cells, hw] at cs1
  replace F1 := Lib.hid F1; replace V1 := Lib.hid V1; replace R1 := Lib.hid R1; replace PB1 := Lib.hid PB1; replace hp1 := Lib.hid hp1; replace ht1 := Lib.hid ht1; replace ho1 := Lib.hid ho1; replace f1 := Lib.hid f1
  clear hv1 cb cs zs
  go_wp2_with fail
  go_ret
  exact ⟨⟨_, rfl, V1.out⟩, R1.out.rn (F1.out.mono (by simp))⟩
theorem dn_ok4 (b : Nat) (s : RS) (bo bt : Option Nat) (e : Ev) (w : World) (h : RM w b s bo bt) (hk1 : e.kind = 4) (hw : s.wt = false) (hn : s.own.length < 900000 ∧ s.other.length < 900000) (hx : s.opn = 1) :
    Calls Try.prog 30 #[.pointer (some ⟨b, 0, none⟩), e.val] w (RbeR b bo bt w (RS.tidied { s with a := s.m, r := s.m, opn := 0 }) [⟨0, 4, e.a, 0, 0, ByteArray.empty⟩]) := by
  obtain ⟨way, kind, ea, eb, ec, ed⟩ := e
  try dsimp only at hk1 ⊢
  subst hk1
  dsimp only [Ev.val]
  obtain ⟨wb, hwb⟩ : ∃ x, w.alloc (.cells #[.int .i64 way, .int .i64 4, .int .i64 ea, .int .i64 eb, .int .i64 ec, .string ed] TEv) = x := ⟨_, rfl⟩
  have PB := Pt.newA w TEv #[.int .i64 way, .int .i64 4, .int .i64 ea, .int .i64 eb, .int .i64 ec, .string ed]
  rw [hwb] at PB
  have FB : Fr [] w wb := by rw [← hwb]; exact (Fr.refl [] w).alloc _
  obtain ⟨bx, hbx⟩ : ∃ x, w.heap.size = x := ⟨_, rfl⟩
  rw [hbx] at PB
  have cb := PB.cell
  have hlt : b < bx := by have := h.lt; omega
  have hR := h.fr0 FB
  obtain ⟨vo, vt, hp, ho, ht, x1, x2⟩ := h.fr0 FB
  have cs := hp.cell
  have zs := hp.free
  replace hR := Lib.hid hR; replace PB := Lib.hid PB; replace FB := Lib.hid FB; replace hp := Lib.hid hp; replace ho := Lib.hid ho; replace ht := Lib.hid ht; replace x1 := Lib.hid x1; replace x2 := Lib.hid x2
  clear h
  go_enter Try.func30, Try.ntmps30
  go_wp2_with fail
  refine (one_any 0 9 ea 0 wb).mono ?_
  rintro e w1 ⟨⟨v1, rfl, hv1⟩, f1⟩
  have F1 := FB.out.trans f1
  have V1 := hv1.le FB.out.size
  have R1 := hR.out.fr0 f1
  have PB1 := f1.pt PB.out (by simp)
  have hp1 := f1.pt hp.out (by simp)
  have ht1 := ht.out.fr f1 (by simp)
  have ho1 := ho.out.fr f1 (by simp)
  have cb1 := PB1.cell
  have cs1 := hp1.cell
  have zs1 := hp1.free
  simp only [RS.cells, hw, hx] at cs1
  replace F1 := Lib.hid F1; replace V1 := Lib.hid V1; replace R1 := Lib.hid R1; replace PB1 := Lib.hid PB1; replace hp1 := Lib.hid hp1; replace ht1 := Lib.hid ht1; replace ho1 := Lib.hid ho1; replace f1 := Lib.hid f1
  clear hv1 cb cs zs
  have R2 := ((R1.out.put (s' := { s with a := s.m }) (j := 2) (v := .int .i64 s.m) (fun _ _ => rfl) rfl rfl).put (s' := { s with a := s.m, r := s.m }) (j := 3) (v := .int .i64 s.m) (fun _ _ => rfl) rfl rfl).put (s' := { s with a := s.m, r := s.m, opn := 0 }) (j := 4) (v := .int .i64 0) (fun _ _ => rfl) rfl rfl
  have F2 : Fr [b] w1 (((w1.setCell ⟨b, 2, none⟩ (.int .i64 s.m)).setCell ⟨b, 3, none⟩ (.int .i64 s.m)).setCell ⟨b, 4, none⟩ (.int .i64 0)) := (((Fr.refl _ _).setCell (by simp) _).setCell (by simp) _).setCell (by simp) _
  obtain ⟨wa, hwa⟩ : ∃ x, (((w1.setCell ⟨b, 2, none⟩ (.int .i64 s.m)).setCell ⟨b, 3, none⟩ (.int .i64 s.m)).setCell ⟨b, 4, none⟩ (.int .i64 0)) = x := ⟨_, rfl⟩
  rw [hwa] at R2 F2
  have T := Lib.hid (tidy_any b { s with a := s.m, r := s.m, opn := 0 } bo bt wa R2 hn)
  have FA : Fr [b] w wa := (F1.out.mono (by simp)).trans F2
  have PBa := F2.pt PB1.out (by simp; omega)
  replace R2 := Lib.hid R2; replace F2 := Lib.hid F2; replace FA := Lib.hid FA; replace PBa := Lib.hid PBa
  replace hwa := Lib.hid hwa
  go_wp2_with fail
  rw [hwa.out]
  refine T.out.mono ?_
  rintro e w3 ⟨rfl, hnew, f3⟩
  have RN3 := (RN.news (bo := bo) (bt := bt) hnew f3).after FA.out
  have PB3 := f3.pt PBa.out (by simp; omega)
  have cb3 := PB3.cell
  replace RN3 := Lib.hid RN3; replace PB3 := Lib.hid PB3; replace f3 := Lib.hid f3; replace hnew := Lib.hid hnew
  clear cb1 cs1 zs1
  go_wp2_with fail
  refine (one_any 0 4 ea 0 w3).mono ?_
  rintro e w9 ⟨⟨v9, rfl, hv9⟩, f9⟩
  have V9 := Lib.hid (hv9.le (FA.out.trans f3.out).size)
  have R9 := Lib.hid (RN3.out.then f9)
  clear hv9 f9
  go_wp2_with fail
  go_ret
  exact ⟨⟨_, rfl, V9.out⟩, R9.out⟩
theorem dn_bad7 (b : Nat) (s : RS) (bo bt : Option Nat) (e : Ev) (w : World) (h : RM w b s bo bt) (hk1 : e.kind = 7) (hw : s.wt = false) :
    Calls Try.prog 30 #[.pointer (some ⟨b, 0, none⟩), e.val] w (RbeR b bo bt w s [⟨0, 9, e.a, 0, 0, ByteArray.empty⟩]) := by
  obtain ⟨way, kind, ea, eb, ec, ed⟩ := e
  try dsimp only at hk1 ⊢
  subst hk1
  dsimp only [Ev.val]
  obtain ⟨wb, hwb⟩ : ∃ x, w.alloc (.cells #[.int .i64 way, .int .i64 7, .int .i64 ea, .int .i64 eb, .int .i64 ec, .string ed] TEv) = x := ⟨_, rfl⟩
  have PB := Pt.newA w TEv #[.int .i64 way, .int .i64 7, .int .i64 ea, .int .i64 eb, .int .i64 ec, .string ed]
  rw [hwb] at PB
  have FB : Fr [] w wb := by rw [← hwb]; exact (Fr.refl [] w).alloc _
  obtain ⟨bx, hbx⟩ : ∃ x, w.heap.size = x := ⟨_, rfl⟩
  rw [hbx] at PB
  have cb := PB.cell
  have hlt : b < bx := by have := h.lt; omega
  have hR := h.fr0 FB
  obtain ⟨vo, vt, hp, ho, ht, x1, x2⟩ := h.fr0 FB
  have cs := hp.cell
  have zs := hp.free
  replace hR := Lib.hid hR; replace PB := Lib.hid PB; replace FB := Lib.hid FB; replace hp := Lib.hid hp; replace ho := Lib.hid ho; replace ht := Lib.hid ht; replace x1 := Lib.hid x1; replace x2 := Lib.hid x2
  clear h
  go_enter Try.func30, Try.ntmps30
  go_wp2_with fail
  refine (one_any 0 9 ea 0 wb).mono ?_
  rintro e w1 ⟨⟨v1, rfl, hv1⟩, f1⟩
  have F1 := FB.out.trans f1
  have V1 := hv1.le FB.out.size
  have R1 := hR.out.fr0 f1
  have PB1 := f1.pt PB.out (by simp)
  have hp1 := f1.pt hp.out (by simp)
  have ht1 := ht.out.fr f1 (by simp)
  have ho1 := ho.out.fr f1 (by simp)
  have cb1 := PB1.cell
  have cs1 := hp1.cell
  have zs1 := hp1.free
  simp only [RS.cells, hw] at cs1
  replace F1 := Lib.hid F1; replace V1 := Lib.hid V1; replace R1 := Lib.hid R1; replace PB1 := Lib.hid PB1; replace hp1 := Lib.hid hp1; replace ht1 := Lib.hid ht1; replace ho1 := Lib.hid ho1; replace f1 := Lib.hid f1
  clear hv1 cb cs zs
  go_wp2_with fail
  go_ret
  exact ⟨⟨_, rfl, V1.out⟩, R1.out.rn (F1.out.mono (by simp))⟩
theorem dn_ok7 (b : Nat) (s : RS) (bo bt : Option Nat) (e : Ev) (w : World) (h : RM w b s bo bt) (hk1 : e.kind = 7) (hw : s.wt = true) (hn : s.own.length < 900000 ∧ s.other.length < 900000) :
    Calls Try.prog 30 #[.pointer (some ⟨b, 0, none⟩), e.val] w (RbeR b bo bt w (s.reset e.b e.a).tidied [⟨0, 7, e.a, e.b, 0, ByteArray.empty⟩]) := by
  obtain ⟨way, kind, ea, eb, ec, ed⟩ := e
  try dsimp only at hk1 ⊢
  subst hk1
  dsimp only [Ev.val]
  obtain ⟨wb, hwb⟩ : ∃ x, w.alloc (.cells #[.int .i64 way, .int .i64 7, .int .i64 ea, .int .i64 eb, .int .i64 ec, .string ed] TEv) = x := ⟨_, rfl⟩
  have PB := Pt.newA w TEv #[.int .i64 way, .int .i64 7, .int .i64 ea, .int .i64 eb, .int .i64 ec, .string ed]
  rw [hwb] at PB
  have FB : Fr [] w wb := by rw [← hwb]; exact (Fr.refl [] w).alloc _
  obtain ⟨bx, hbx⟩ : ∃ x, w.heap.size = x := ⟨_, rfl⟩
  rw [hbx] at PB
  have cb := PB.cell
  have hlt : b < bx := by have := h.lt; omega
  have hR := h.fr0 FB
  obtain ⟨vo, vt, hp, ho, ht, x1, x2⟩ := h.fr0 FB
  have cs := hp.cell
  have zs := hp.free
  replace hR := Lib.hid hR; replace PB := Lib.hid PB; replace FB := Lib.hid FB; replace hp := Lib.hid hp; replace ho := Lib.hid ho; replace ht := Lib.hid ht; replace x1 := Lib.hid x1; replace x2 := Lib.hid x2
  clear h
  go_enter Try.func30, Try.ntmps30
  go_wp2_with fail
  refine (one_any 0 9 ea 0 wb).mono ?_
  rintro e w1 ⟨⟨v1, rfl, hv1⟩, f1⟩
  have F1 := FB.out.trans f1
  have V1 := hv1.le FB.out.size
  have R1 := hR.out.fr0 f1
  have PB1 := f1.pt PB.out (by simp)
  have hp1 := f1.pt hp.out (by simp)
  have ht1 := ht.out.fr f1 (by simp)
  have ho1 := ho.out.fr f1 (by simp)
  have cb1 := PB1.cell
  have cs1 := hp1.cell
  have zs1 := hp1.free
  simp only [RS.cells, hw] at cs1
  replace F1 := Lib.hid F1; replace V1 := Lib.hid V1; replace R1 := Lib.hid R1; replace PB1 := Lib.hid PB1; replace hp1 := Lib.hid hp1; replace ht1 := Lib.hid ht1; replace ho1 := Lib.hid ho1; replace f1 := Lib.hid f1
  clear hv1 cb cs zs
  have T := Lib.hid (ranew_any b s bo bt eb ea w1 R1.out hn)
  go_wp2_with fail
  refine T.out.mono ?_
  rintro e w3 ⟨rfl, hnew, f3⟩
  have RN3 := (RN.news (bo := bo) (bt := bt) hnew f3).after (F1.out.mono (by simp))
  have PB3 := f3.pt PB1.out (by simp; omega)
  have cb3 := PB3.cell
  have hsz := (F1.out.mono (by simp) : Fr [b] w w1).trans f3
  replace RN3 := Lib.hid RN3; replace PB3 := Lib.hid PB3; replace f3 := Lib.hid f3; replace hnew := Lib.hid hnew; replace hsz := Lib.hid hsz
  clear cb1 cs1 zs1
  go_wp2_with fail
  refine (one_any 0 7 ea eb w3).mono ?_
  rintro e w9 ⟨⟨v9, rfl, hv9⟩, f9⟩
  have V9 := Lib.hid (hv9.le hsz.out.size)
  have R9 := Lib.hid (RN3.out.then f9)
  clear hv9 f9
  go_wp2_with fail
  go_ret
  exact ⟨⟨_, rfl, V9.out⟩, R9.out⟩
theorem dn_bad5 (b : Nat) (s : RS) (bo bt : Option Nat) (e : Ev) (w : World) (h : RM w b s bo bt) (hk1 : e.kind = 5) (hb : e.b = 0) (hx : e.a < s.r ∨ s.m < e.a) :
    Calls Try.prog 30 #[.pointer (some ⟨b, 0, none⟩), e.val] w (RbeR b bo bt w s [⟨0, 9, e.a, 0, 0, ByteArray.empty⟩]) := by
  obtain ⟨way, kind, ea, eb, ec, ed⟩ := e
  try dsimp only at hb hx hk1 ⊢
  subst hk1; subst hb
  dsimp only [Ev.val]
  obtain ⟨wb, hwb⟩ : ∃ x, w.alloc (.cells #[.int .i64 way, .int .i64 5, .int .i64 ea, .int .i64 0, .int .i64 ec, .string ed] TEv) = x := ⟨_, rfl⟩
  have PB := Pt.newA w TEv #[.int .i64 way, .int .i64 5, .int .i64 ea, .int .i64 0, .int .i64 ec, .string ed]
  rw [hwb] at PB
  have FB : Fr [] w wb := by rw [← hwb]; exact (Fr.refl [] w).alloc _
  obtain ⟨bx, hbx⟩ : ∃ x, w.heap.size = x := ⟨_, rfl⟩
  rw [hbx] at PB
  have cb := PB.cell
  have hlt : b < bx := by have := h.lt; omega
  have hR := h.fr0 FB
  obtain ⟨vo, vt, hp, ho, ht, x1, x2⟩ := h.fr0 FB
  have cs := hp.cell
  have zs := hp.free
  replace hR := Lib.hid hR; replace PB := Lib.hid PB; replace FB := Lib.hid FB; replace hp := Lib.hid hp; replace ho := Lib.hid ho; replace ht := Lib.hid ht; replace x1 := Lib.hid x1; replace x2 := Lib.hid x2
  clear h
  rcases (by omega : ea < s.r ∨ (¬ ea < s.r ∧ s.m < ea)) with c | ⟨c, c2⟩
  · have d1 : decide (ea < s.r) = true := decide_eq_true c
    cases hw : s.wt
    all_goals
      go_enter Try.func30, Try.ntmps30
      go_wp2_with fail
      refine (one_any 0 9 ea 0 wb).mono ?_
      rintro e w1 ⟨⟨v1, rfl, hv1⟩, f1⟩
      have F1 := FB.out.trans f1
      have V1 := hv1.le FB.out.size
      have R1 := hR.out.fr0 f1
      have PB1 := f1.pt PB.out (by simp)
      have hp1 := f1.pt hp.out (by simp)
      have ht1 := ht.out.fr f1 (by simp)
      have ho1 := ho.out.fr f1 (by simp)
      have cb1 := PB1.cell
      have cs1 := hp1.cell
      have zs1 := hp1.free
      simp only [RS.cells, hw] at cs1
      replace F1 := Lib.hid F1; replace V1 := Lib.hid V1; replace R1 := Lib.hid R1; replace PB1 := Lib.hid PB1; replace hp1 := Lib.hid hp1; replace ht1 := Lib.hid ht1; replace ho1 := Lib.hid ho1; replace f1 := Lib.hid f1
      clear hv1 cb cs zs
      go_wp2_with fail
      go_quiet (fail)
      go_wp2_with fail
      go_ret
      exact ⟨⟨_, rfl, V1.out.fr ((Fr.refl [] w1).drewN nq)⟩, (R1.out.fr0 ((Fr.refl [] w1).drewN nq)).rn ((F1.out.drewN nq).mono (by simp))⟩
  · have d1 : decide (ea < s.r) = false := decide_eq_false c
    have d2 : decide (s.m < ea) = true := decide_eq_true c2
    cases hw : s.wt
    all_goals
      go_enter Try.func30, Try.ntmps30
      go_wp2_with fail
      refine (one_any 0 9 ea 0 wb).mono ?_
      rintro e w1 ⟨⟨v1, rfl, hv1⟩, f1⟩
      have F1 := FB.out.trans f1
      have V1 := hv1.le FB.out.size
      have R1 := hR.out.fr0 f1
      have PB1 := f1.pt PB.out (by simp)
      have hp1 := f1.pt hp.out (by simp)
      have ht1 := ht.out.fr f1 (by simp)
      have ho1 := ho.out.fr f1 (by simp)
      have cb1 := PB1.cell
      have cs1 := hp1.cell
      have zs1 := hp1.free
      simp only [RS.cells, hw] at cs1
      replace F1 := Lib.hid F1; replace V1 := Lib.hid V1; replace R1 := Lib.hid R1; replace PB1 := Lib.hid PB1; replace hp1 := Lib.hid hp1; replace ht1 := Lib.hid ht1; replace ho1 := Lib.hid ho1; replace f1 := Lib.hid f1
      clear hv1 cb cs zs
      go_wp2_with fail
      go_quiet (fail)
      go_wp2_with fail
      go_ret
      exact ⟨⟨_, rfl, V1.out.fr ((Fr.refl [] w1).drewN nq)⟩, (R1.out.fr0 ((Fr.refl [] w1).drewN nq)).rn ((F1.out.drewN nq).mono (by simp))⟩
end Go.Proofs.Ytjgmlnkbplgloaa
