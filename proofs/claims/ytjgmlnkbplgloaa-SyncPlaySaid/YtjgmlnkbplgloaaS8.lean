import Derived.Test.YtjgmlnkbplgloaaS7
namespace Go.Proofs.Ytjgmlnkbplgloaa
open Go.RowKit
set_option linter.unusedVariables false
set_option linter.unusedSimpArgs false
set_option maxHeartbeats 4000000
set_option maxRecDepth 20000
variable {X : List Nat}
/-- The event's box, and what it leaves of a side. -/
theorem req_bad (b : Nat) (s : SS) (e : Ev) (w : World) (h : SM X w b s) (hb : e.b = 0) (hx : e.a < s.r ∨ s.m < e.a) :
    Calls Try.prog 46 #[.pointer (some ⟨b, 0, none⟩), e.val] w (BeR X b w s [⟨0, 9, e.a, 0, 0, ByteArray.empty⟩]) := by
  have hS := h
  obtain ⟨vo, vt, hp, ho, ht⟩ := h
  have hc := hp.cell
  simp only [SS.cells] at hc
  obtain ⟨way, kind, a, eb, c, d⟩ := e
  dsimp only at hb hx
  subst hb
  have hlt := hp.lt
  obtain ⟨wb, hwb⟩ : ∃ x, w.alloc (.cells #[.int .i64 way, .int .i64 kind, .int .i64 a, .int .i64 0, .int .i64 c, .string d] TEv) = x := ⟨_, rfl⟩
  have PB := Pt.newA w TEv #[.int .i64 way, .int .i64 kind, .int .i64 a, .int .i64 0, .int .i64 c, .string d]
  rw [hwb] at PB
  have FB : Fr [] w wb := by rw [← hwb]; exact (Fr.refl [] w).alloc _
  obtain ⟨bx, hbx⟩ : ∃ x, w.heap.size = x := ⟨_, rfl⟩
  rw [hbx] at PB
  have SB := hS.fr FB
  have hcb := (FB.pt hp (by simp)).cell
  simp only [SS.cells] at hcb
  have cb := PB.cell
  replace FB := Lib.hid FB; replace SB := Lib.hid SB; replace PB := Lib.hid PB
  clear hp ho ht hS hc
  dsimp only [Ev.val]
  rcases (by omega : a < s.r ∨ (¬ a < s.r ∧ s.m < a)) with h1 | ⟨h1, h2⟩
  · have hd : decide (a < s.r) = true := decide_eq_true h1
    go_enter Try.func46, Try.ntmps46
    go_wp2_with fail
    go_quiet (fail)
    go_wp2_with fail
    refine (told_any 9 a 0 _).mono ?_
    rintro e w3 ⟨⟨v3, rfl, hv3⟩, f3⟩
    have F := (FB.out.drewN nq).trans f3
    have S := (SB.out.fr ((Fr.refl [] wb).drewN nq)).fr f3
    have V := hv3.le (FB.out.drewN nq).size
    clear cb hcb hv3 f3
    go_wp2
    go_ret
    exact ⟨⟨_, rfl, V⟩, S, F.mono (by simp)⟩
  · have hd : decide (a < s.r) = false := decide_eq_false h1
    go_enter Try.func46, Try.ntmps46
    go_wp2_with fail
    go_quiet (fail)
    go_wp2_with fail
    refine (told_any 9 a 0 _).mono ?_
    rintro e w3 ⟨⟨v3, rfl, hv3⟩, f3⟩
    have F := (FB.out.drewN nq).trans f3
    have S := (SB.out.fr ((Fr.refl [] wb).drewN nq)).fr f3
    have V := hv3.le (FB.out.drewN nq).size
    clear cb hcb hv3 f3
    go_wp2
    go_ret
    exact ⟨⟨_, rfl, V⟩, S, F.mono (by simp)⟩
theorem req_wins (b : Nat) (s : SS) (e : Ev) (w : World) (h : SM X w b s) (hb : e.b = 0 ∨ e.b = 1 ∨ e.b = 2) (hx : ¬ (e.b = 0 ∧ (e.a < s.r ∨ s.m < e.a))) (hwt : s.wt = true) (hwh : s.wh = 0 ∨ s.wh = 1 ∨ s.wh = 2) (hwin : s.wins e = true) :
    Calls Try.prog 46 #[.pointer (some ⟨b, 0, none⟩), e.val] w (BeR X b w s []) := by
  have hS := h
  obtain ⟨vo, vt, hp, ho, ht⟩ := h
  obtain ⟨way, kind, a, eb, c, d⟩ := e
  dsimp only at hb hx hwin
  have hlt := hp.lt
  obtain ⟨wb, hwb⟩ : ∃ x, w.alloc (.cells #[.int .i64 way, .int .i64 kind, .int .i64 a, .int .i64 eb, .int .i64 c, .string d] TEv) = x := ⟨_, rfl⟩
  have PB := Pt.newA w TEv #[.int .i64 way, .int .i64 kind, .int .i64 a, .int .i64 eb, .int .i64 c, .string d]
  rw [hwb] at PB
  have FB : Fr [] w wb := by rw [← hwb]; exact (Fr.refl [] w).alloc _
  obtain ⟨bx, hbx⟩ : ∃ x, w.heap.size = x := ⟨_, rfl⟩
  rw [hbx] at PB
  have SB := hS.fr FB
  have hbn : b ≠ bx := by omega
  have hcb := (FB.pt hp (by simp)).cell
  simp only [SS.cells, hwt] at hcb
  have cb := PB.cell
  replace FB := Lib.hid FB; replace SB := Lib.hid SB; replace PB := Lib.hid PB
  clear hp ho ht hS
  dsimp only [Ev.val]
  rcases hb with rfl | rfl | rfl
  · have h1 : ¬ a < s.r := by omega
    have h2 : ¬ s.m < a := by omega
    have hd : decide (a < s.r) = false := decide_eq_false h1
    have hd2 : decide (s.m < a) = false := decide_eq_false h2
    go_enter Try.func46, Try.ntmps46
    go_wp2_with fail
    go_quiet (fail)
    go_wp2_with fail
    have WI := Lib.hid (wins_any b s ⟨way, kind, a, 0, c, d⟩ (wb.drewN nq) (SB.out.fr ((Fr.refl [] wb).drewN nq)) hwh (by simp))
    rw [hwin] at WI
    dsimp only [Ev.val] at WI
    refine WI.out.mono ?_
    rintro e w1 ⟨rfl, f1⟩
    have F1 : Fr [] wb w1 := ((Fr.refl [] wb).drewN nq).trans f1
    have S := SB.out.fr F1
    have F := FB.out.trans F1
    clear cb hcb
    go_wp2
    go_ret
    exact ⟨⟨_, rfl, .inl ⟨rfl, rfl⟩⟩, S, F.mono (by simp)⟩
  · go_enter Try.func46, Try.ntmps46
    go_wp2_with fail
    go_quiet (fail)
    go_wp2_with fail
    have WI := Lib.hid (wins_any b s ⟨way, kind, a, 1, c, d⟩ (wb.drewN nq) (SB.out.fr ((Fr.refl [] wb).drewN nq)) hwh (by simp))
    rw [hwin] at WI
    dsimp only [Ev.val] at WI
    refine WI.out.mono ?_
    rintro e w1 ⟨rfl, f1⟩
    have F1 : Fr [] wb w1 := ((Fr.refl [] wb).drewN nq).trans f1
    have S := SB.out.fr F1
    have F := FB.out.trans F1
    clear cb hcb
    go_wp2
    go_ret
    exact ⟨⟨_, rfl, .inl ⟨rfl, rfl⟩⟩, S, F.mono (by simp)⟩
  · go_enter Try.func46, Try.ntmps46
    go_wp2_with fail
    go_quiet (fail)
    go_wp2_with fail
    have WI := Lib.hid (wins_any b s ⟨way, kind, a, 2, c, d⟩ (wb.drewN nq) (SB.out.fr ((Fr.refl [] wb).drewN nq)) hwh (by simp))
    rw [hwin] at WI
    dsimp only [Ev.val] at WI
    refine WI.out.mono ?_
    rintro e w1 ⟨rfl, f1⟩
    have F1 : Fr [] wb w1 := ((Fr.refl [] wb).drewN nq).trans f1
    have S := SB.out.fr F1
    have F := FB.out.trans F1
    clear cb hcb
    go_wp2
    go_ret
    exact ⟨⟨_, rfl, .inl ⟨rfl, rfl⟩⟩, S, F.mono (by simp)⟩
theorem req_loses (b : Nat) (s : SS) (e : Ev) (w : World) (h : SM X w b s) (hb : e.b = 0 ∨ e.b = 1 ∨ e.b = 2) (hx : ¬ (e.b = 0 ∧ (e.a < s.r ∨ s.m < e.a))) (hwt : s.wt = true) (hwh : s.wh = 0 ∨ s.wh = 1 ∨ s.wh = 2) (hwin : s.wins e = false) :
    Calls Try.prog 46 #[.pointer (some ⟨b, 0, none⟩), e.val] w (BeR X b w { s with wt := false, wh := 0, wn := 0, kt := true, kh := e.b, kn := if e.b = 1 then max e.a s.m else e.a } [⟨0, 5, if e.b = 1 then max e.a s.m else e.a, e.b, 0, ByteArray.empty⟩]) := by
  have hS := h
  obtain ⟨vo, vt, hp, ho, ht⟩ := h
  obtain ⟨way, kind, a, eb, c, d⟩ := e
  dsimp only at hb hx hwin
  have hlt := hp.lt
  obtain ⟨wb, hwb⟩ : ∃ x, w.alloc (.cells #[.int .i64 way, .int .i64 kind, .int .i64 a, .int .i64 eb, .int .i64 c, .string d] TEv) = x := ⟨_, rfl⟩
  have PB := Pt.newA w TEv #[.int .i64 way, .int .i64 kind, .int .i64 a, .int .i64 eb, .int .i64 c, .string d]
  rw [hwb] at PB
  have FB : Fr [] w wb := by rw [← hwb]; exact (Fr.refl [] w).alloc _
  obtain ⟨bx, hbx⟩ : ∃ x, w.heap.size = x := ⟨_, rfl⟩
  rw [hbx] at PB
  have SB := hS.fr FB
  have hbn : b ≠ bx := by omega
  have hcb := (FB.pt hp (by simp)).cell
  simp only [SS.cells, hwt] at hcb
  have cb := PB.cell
  replace FB := Lib.hid FB; replace SB := Lib.hid SB; replace PB := Lib.hid PB
  clear hp ho ht hS
  dsimp only [Ev.val]
  rcases hb with rfl | rfl | rfl
  · have h1 : ¬ a < s.r := by omega
    have h2 : ¬ s.m < a := by omega
    have hd : decide (a < s.r) = false := decide_eq_false h1
    have hd2 : decide (s.m < a) = false := decide_eq_false h2
    have hNe : (if (0 : Int) = 1 then max a s.m else a) = a := by rw [if_neg (by omega)]
    rw [hNe]
    clear hNe
    go_enter Try.func46, Try.ntmps46
    go_wp2_with fail
    go_quiet (fail)
    go_wp2_with fail
    have WI := Lib.hid (wins_any b s ⟨way, kind, a, 0, c, d⟩ (wb.drewN nq) (SB.out.fr ((Fr.refl [] wb).drewN nq)) hwh (by simp))
    rw [hwin] at WI
    dsimp only [Ev.val] at WI
    refine WI.out.mono ?_
    rintro e w1 ⟨rfl, f1⟩
    have F1 : Fr [] wb w1 := ((Fr.refl [] wb).drewN nq).trans f1
    have PB1 := F1.pt PB.out (by simp)
    have c1 := PB1.cell
    have S1 := SB.out.fr F1
    obtain ⟨vo1, vt1, hp1, ho1, ht1⟩ := SB.out.fr F1
    have hc1 := hp1.cell
    have hz1 := hp1.free
    simp only [SS.cells, hwt] at hc1
    have SN := ((S1.wait false 0 0).owe true 0 a).drew
    have FN := (((FB.out.trans F1).mono (ex' := [b]) (by simp)).three 8 9 10 (.bool false) (.int .i64 0) (.int .i64 0)).three 11 12 13 (.bool true) (.int .i64 0) (.int .i64 (a)) |>.drew
    have PN := (((((PB1.ne (p := ⟨b, 8, none⟩) (by simp; omega) (.bool false)).ne (p := ⟨b, 9, none⟩) (by simp; omega) (.int .i64 0)).ne (p := ⟨b, 10, none⟩) (by simp; omega) (.int .i64 0)).ne (p := ⟨b, 11, none⟩) (by simp; omega) (.bool true)).ne (p := ⟨b, 12, none⟩) (by simp; omega) (.int .i64 0)).ne (p := ⟨b, 13, none⟩) (by simp; omega) (.int .i64 (a)) |>.drew
    obtain ⟨wn, hwn⟩ : ∃ x, ((((((w1.setCell ⟨b, 8, none⟩ (.bool false)).setCell ⟨b, 9, none⟩ (.int .i64 0)).setCell ⟨b, 10, none⟩ (.int .i64 0)).setCell ⟨b, 11, none⟩ (.bool true)).setCell ⟨b, 12, none⟩ (.int .i64 0)).setCell ⟨b, 13, none⟩ (.int .i64 (a))).drew = x := ⟨_, rfl⟩
    rw [hwn] at SN FN PN
    have cn := PN.cell
    replace hwn := Lib.hid hwn; replace SN := Lib.hid SN; replace FN := Lib.hid FN; replace PN := Lib.hid PN; replace S1 := Lib.hid S1; replace PB1 := Lib.hid PB1; replace hp1 := Lib.hid hp1; replace ho1 := Lib.hid ho1; replace ht1 := Lib.hid ht1; replace F1 := Lib.hid F1
    clear cb hcb
    go_wp2_with fail
    go_region
    rw [hwn.out]
    go_wp2_with fail
    refine (told_any 5 (a) 0 wn).mono ?_
    rintro e w3 ⟨⟨v3, rfl, hv3⟩, f3⟩
    have S := SN.out.fr f3
    have F := FN.out.trans (f3.mono (by simp))
    have V := hv3.le FN.out.size
    clear cn hc1 hz1 hv3 f3
    go_wp2
    go_ret
    exact ⟨⟨_, rfl, V⟩, S, F⟩
  · rcases (by omega : a < s.m ∨ s.m < a ∨ a = s.m) with hm | hm | rfl
    · have hm : a < s.m := hm
      have hNe : (if (1 : Int) = 1 then max a s.m else a) = s.m := by exact (if_pos rfl).trans (by omega)
      rw [hNe]
      clear hNe
      go_enter Try.func46, Try.ntmps46
      go_wp2_with fail
      go_quiet (fail)
      go_wp2_with fail
      all_goals
        have WI := Lib.hid (wins_any b s ⟨way, kind, a, 1, c, d⟩ (wb.drewN nq) (SB.out.fr ((Fr.refl [] wb).drewN nq)) hwh (by simp))
        rw [hwin] at WI
        dsimp only [Ev.val] at WI
        refine WI.out.mono ?_
        rintro e w1 ⟨rfl, f1⟩
        have F1 : Fr [] wb w1 := ((Fr.refl [] wb).drewN nq).trans f1
        have PB1 := F1.pt PB.out (by simp)
        have c1 := PB1.cell
        have S1 := SB.out.fr F1
        obtain ⟨vo1, vt1, hp1, ho1, ht1⟩ := SB.out.fr F1
        have hc1 := hp1.cell
        have hz1 := hp1.free
        simp only [SS.cells, hwt] at hc1
        have SN := ((S1.wait false 0 0).owe true 1 s.m).drew
        have FN := (((FB.out.trans F1).mono (ex' := [b]) (by simp)).three 8 9 10 (.bool false) (.int .i64 0) (.int .i64 0)).three 11 12 13 (.bool true) (.int .i64 1) (.int .i64 (s.m)) |>.drew
        have PN := (((((PB1.ne (p := ⟨b, 8, none⟩) (by simp; omega) (.bool false)).ne (p := ⟨b, 9, none⟩) (by simp; omega) (.int .i64 0)).ne (p := ⟨b, 10, none⟩) (by simp; omega) (.int .i64 0)).ne (p := ⟨b, 11, none⟩) (by simp; omega) (.bool true)).ne (p := ⟨b, 12, none⟩) (by simp; omega) (.int .i64 1)).ne (p := ⟨b, 13, none⟩) (by simp; omega) (.int .i64 (s.m)) |>.drew
        obtain ⟨wn, hwn⟩ : ∃ x, ((((((w1.setCell ⟨b, 8, none⟩ (.bool false)).setCell ⟨b, 9, none⟩ (.int .i64 0)).setCell ⟨b, 10, none⟩ (.int .i64 0)).setCell ⟨b, 11, none⟩ (.bool true)).setCell ⟨b, 12, none⟩ (.int .i64 1)).setCell ⟨b, 13, none⟩ (.int .i64 (s.m))).drew = x := ⟨_, rfl⟩
        rw [hwn] at SN FN PN
        have cn := PN.cell
        replace hwn := Lib.hid hwn; replace SN := Lib.hid SN; replace FN := Lib.hid FN; replace PN := Lib.hid PN; replace S1 := Lib.hid S1; replace PB1 := Lib.hid PB1; replace hp1 := Lib.hid hp1; replace ho1 := Lib.hid ho1; replace ht1 := Lib.hid ht1; replace F1 := Lib.hid F1
        clear cb hcb
        go_wp2_with fail
        all_goals
          go_region
          rw [hwn.out]
          go_wp2_with fail
          refine (told_any 5 (s.m) 1 wn).mono ?_
          rintro e w3 ⟨⟨v3, rfl, hv3⟩, f3⟩
          have S := SN.out.fr f3
          have F := FN.out.trans (f3.mono (by simp))
          have V := hv3.le FN.out.size
          clear cn hc1 hz1 hv3 f3
          go_wp2
          go_ret
          exact ⟨⟨_, rfl, V⟩, S, F⟩
    · have hm : s.m < a := hm
      have hNe : (if (1 : Int) = 1 then max a s.m else a) = a := by exact (if_pos rfl).trans (by omega)
      rw [hNe]
      clear hNe
      go_enter Try.func46, Try.ntmps46
      go_wp2_with fail
      go_quiet (fail)
      go_wp2_with fail
      all_goals
        have WI := Lib.hid (wins_any b s ⟨way, kind, a, 1, c, d⟩ (wb.drewN nq) (SB.out.fr ((Fr.refl [] wb).drewN nq)) hwh (by simp))
        rw [hwin] at WI
        dsimp only [Ev.val] at WI
        refine WI.out.mono ?_
        rintro e w1 ⟨rfl, f1⟩
        have F1 : Fr [] wb w1 := ((Fr.refl [] wb).drewN nq).trans f1
        have PB1 := F1.pt PB.out (by simp)
        have c1 := PB1.cell
        have S1 := SB.out.fr F1
        obtain ⟨vo1, vt1, hp1, ho1, ht1⟩ := SB.out.fr F1
        have hc1 := hp1.cell
        have hz1 := hp1.free
        simp only [SS.cells, hwt] at hc1
        have SN := ((S1.wait false 0 0).owe true 1 a).drew
        have FN := (((FB.out.trans F1).mono (ex' := [b]) (by simp)).three 8 9 10 (.bool false) (.int .i64 0) (.int .i64 0)).three 11 12 13 (.bool true) (.int .i64 1) (.int .i64 (a)) |>.drew
        have PN := (((((PB1.ne (p := ⟨b, 8, none⟩) (by simp; omega) (.bool false)).ne (p := ⟨b, 9, none⟩) (by simp; omega) (.int .i64 0)).ne (p := ⟨b, 10, none⟩) (by simp; omega) (.int .i64 0)).ne (p := ⟨b, 11, none⟩) (by simp; omega) (.bool true)).ne (p := ⟨b, 12, none⟩) (by simp; omega) (.int .i64 1)).ne (p := ⟨b, 13, none⟩) (by simp; omega) (.int .i64 (a)) |>.drew
        obtain ⟨wn, hwn⟩ : ∃ x, ((((((w1.setCell ⟨b, 8, none⟩ (.bool false)).setCell ⟨b, 9, none⟩ (.int .i64 0)).setCell ⟨b, 10, none⟩ (.int .i64 0)).setCell ⟨b, 11, none⟩ (.bool true)).setCell ⟨b, 12, none⟩ (.int .i64 1)).setCell ⟨b, 13, none⟩ (.int .i64 (a))).drew = x := ⟨_, rfl⟩
        rw [hwn] at SN FN PN
        have cn := PN.cell
        replace hwn := Lib.hid hwn; replace SN := Lib.hid SN; replace FN := Lib.hid FN; replace PN := Lib.hid PN; replace S1 := Lib.hid S1; replace PB1 := Lib.hid PB1; replace hp1 := Lib.hid hp1; replace ho1 := Lib.hid ho1; replace ht1 := Lib.hid ht1; replace F1 := Lib.hid F1
        clear cb hcb
        go_wp2_with fail
        all_goals
          go_region
          rw [hwn.out]
          go_wp2_with fail
          refine (told_any 5 (a) 1 wn).mono ?_
          rintro e w3 ⟨⟨v3, rfl, hv3⟩, f3⟩
          have S := SN.out.fr f3
          have F := FN.out.trans (f3.mono (by simp))
          have V := hv3.le FN.out.size
          clear cn hc1 hz1 hv3 f3
          go_wp2
          go_ret
          exact ⟨⟨_, rfl, V⟩, S, F⟩
    · have hNe : (if (1 : Int) = 1 then max s.m s.m else s.m) = s.m := by exact (if_pos rfl).trans (by omega)
      rw [hNe]
      clear hNe
      go_enter Try.func46, Try.ntmps46
      go_wp2_with fail
      go_quiet (fail)
      go_wp2_with fail
      all_goals
        have WI := Lib.hid (wins_any b s ⟨way, kind, s.m, 1, c, d⟩ (wb.drewN nq) (SB.out.fr ((Fr.refl [] wb).drewN nq)) hwh (by simp))
        rw [hwin] at WI
        dsimp only [Ev.val] at WI
        refine WI.out.mono ?_
        rintro e w1 ⟨rfl, f1⟩
        have F1 : Fr [] wb w1 := ((Fr.refl [] wb).drewN nq).trans f1
        have PB1 := F1.pt PB.out (by simp)
        have c1 := PB1.cell
        have S1 := SB.out.fr F1
        obtain ⟨vo1, vt1, hp1, ho1, ht1⟩ := SB.out.fr F1
        have hc1 := hp1.cell
        have hz1 := hp1.free
        simp only [SS.cells, hwt] at hc1
        have SN := ((S1.wait false 0 0).owe true 1 s.m).drew
        have FN := (((FB.out.trans F1).mono (ex' := [b]) (by simp)).three 8 9 10 (.bool false) (.int .i64 0) (.int .i64 0)).three 11 12 13 (.bool true) (.int .i64 1) (.int .i64 (s.m)) |>.drew
        have PN := (((((PB1.ne (p := ⟨b, 8, none⟩) (by simp; omega) (.bool false)).ne (p := ⟨b, 9, none⟩) (by simp; omega) (.int .i64 0)).ne (p := ⟨b, 10, none⟩) (by simp; omega) (.int .i64 0)).ne (p := ⟨b, 11, none⟩) (by simp; omega) (.bool true)).ne (p := ⟨b, 12, none⟩) (by simp; omega) (.int .i64 1)).ne (p := ⟨b, 13, none⟩) (by simp; omega) (.int .i64 (s.m)) |>.drew
        obtain ⟨wn, hwn⟩ : ∃ x, ((((((w1.setCell ⟨b, 8, none⟩ (.bool false)).setCell ⟨b, 9, none⟩ (.int .i64 0)).setCell ⟨b, 10, none⟩ (.int .i64 0)).setCell ⟨b, 11, none⟩ (.bool true)).setCell ⟨b, 12, none⟩ (.int .i64 1)).setCell ⟨b, 13, none⟩ (.int .i64 (s.m))).drew = x := ⟨_, rfl⟩
        rw [hwn] at SN FN PN
        have cn := PN.cell
        replace hwn := Lib.hid hwn; replace SN := Lib.hid SN; replace FN := Lib.hid FN; replace PN := Lib.hid PN; replace S1 := Lib.hid S1; replace PB1 := Lib.hid PB1; replace hp1 := Lib.hid hp1; replace ho1 := Lib.hid ho1; replace ht1 := Lib.hid ht1; replace F1 := Lib.hid F1
        clear cb hcb
        go_wp2_with fail
        all_goals
          go_region
          rw [hwn.out]
          go_wp2_with fail
          refine (told_any 5 (s.m) 1 wn).mono ?_
          rintro e w3 ⟨⟨v3, rfl, hv3⟩, f3⟩
          have S := SN.out.fr f3
          have F := FN.out.trans (f3.mono (by simp))
          have V := hv3.le FN.out.size
          clear cn hc1 hz1 hv3 f3
          go_wp2
          go_ret
          exact ⟨⟨_, rfl, V⟩, S, F⟩
  · have hNe : (if (2 : Int) = 1 then max a s.m else a) = a := by rw [if_neg (by omega)]
    rw [hNe]
    clear hNe
    go_enter Try.func46, Try.ntmps46
    go_wp2_with fail
    go_quiet (fail)
    go_wp2_with fail
    have WI := Lib.hid (wins_any b s ⟨way, kind, a, 2, c, d⟩ (wb.drewN nq) (SB.out.fr ((Fr.refl [] wb).drewN nq)) hwh (by simp))
    rw [hwin] at WI
    dsimp only [Ev.val] at WI
    refine WI.out.mono ?_
    rintro e w1 ⟨rfl, f1⟩
    have F1 : Fr [] wb w1 := ((Fr.refl [] wb).drewN nq).trans f1
    have PB1 := F1.pt PB.out (by simp)
    have c1 := PB1.cell
    have S1 := SB.out.fr F1
    obtain ⟨vo1, vt1, hp1, ho1, ht1⟩ := SB.out.fr F1
    have hc1 := hp1.cell
    have hz1 := hp1.free
    simp only [SS.cells, hwt] at hc1
    have SN := ((S1.wait false 0 0).owe true 2 a).drew
    have FN := (((FB.out.trans F1).mono (ex' := [b]) (by simp)).three 8 9 10 (.bool false) (.int .i64 0) (.int .i64 0)).three 11 12 13 (.bool true) (.int .i64 2) (.int .i64 (a)) |>.drew
    have PN := (((((PB1.ne (p := ⟨b, 8, none⟩) (by simp; omega) (.bool false)).ne (p := ⟨b, 9, none⟩) (by simp; omega) (.int .i64 0)).ne (p := ⟨b, 10, none⟩) (by simp; omega) (.int .i64 0)).ne (p := ⟨b, 11, none⟩) (by simp; omega) (.bool true)).ne (p := ⟨b, 12, none⟩) (by simp; omega) (.int .i64 2)).ne (p := ⟨b, 13, none⟩) (by simp; omega) (.int .i64 (a)) |>.drew
    obtain ⟨wn, hwn⟩ : ∃ x, ((((((w1.setCell ⟨b, 8, none⟩ (.bool false)).setCell ⟨b, 9, none⟩ (.int .i64 0)).setCell ⟨b, 10, none⟩ (.int .i64 0)).setCell ⟨b, 11, none⟩ (.bool true)).setCell ⟨b, 12, none⟩ (.int .i64 2)).setCell ⟨b, 13, none⟩ (.int .i64 (a))).drew = x := ⟨_, rfl⟩
    rw [hwn] at SN FN PN
    have cn := PN.cell
    replace hwn := Lib.hid hwn; replace SN := Lib.hid SN; replace FN := Lib.hid FN; replace PN := Lib.hid PN; replace S1 := Lib.hid S1; replace PB1 := Lib.hid PB1; replace hp1 := Lib.hid hp1; replace ho1 := Lib.hid ho1; replace ht1 := Lib.hid ht1; replace F1 := Lib.hid F1
    clear cb hcb
    go_wp2_with fail
    go_region
    rw [hwn.out]
    go_wp2_with fail
    refine (told_any 5 (a) 2 wn).mono ?_
    rintro e w3 ⟨⟨v3, rfl, hv3⟩, f3⟩
    have S := SN.out.fr f3
    have F := FN.out.trans (f3.mono (by simp))
    have V := hv3.le FN.out.size
    clear cn hc1 hz1 hv3 f3
    go_wp2
    go_ret
    exact ⟨⟨_, rfl, V⟩, S, F⟩
theorem req_free (b : Nat) (s : SS) (e : Ev) (w : World) (h : SM X w b s) (hb : e.b = 0 ∨ e.b = 1 ∨ e.b = 2) (hx : ¬ (e.b = 0 ∧ (e.a < s.r ∨ s.m < e.a))) (hwt : s.wt = false) :
    Calls Try.prog 46 #[.pointer (some ⟨b, 0, none⟩), e.val] w (BeR X b w { s with wt := false, wh := 0, wn := 0, kt := true, kh := e.b, kn := if e.b = 1 then max e.a s.m else e.a } [⟨0, 5, if e.b = 1 then max e.a s.m else e.a, e.b, 0, ByteArray.empty⟩]) := by
  have hS := h
  obtain ⟨vo, vt, hp, ho, ht⟩ := h
  obtain ⟨way, kind, a, eb, c, d⟩ := e
  dsimp only at hb hx ⊢
  have hlt := hp.lt
  obtain ⟨wb, hwb⟩ : ∃ x, w.alloc (.cells #[.int .i64 way, .int .i64 kind, .int .i64 a, .int .i64 eb, .int .i64 c, .string d] TEv) = x := ⟨_, rfl⟩
  have PB := Pt.newA w TEv #[.int .i64 way, .int .i64 kind, .int .i64 a, .int .i64 eb, .int .i64 c, .string d]
  rw [hwb] at PB
  have FB : Fr [] w wb := by rw [← hwb]; exact (Fr.refl [] w).alloc _
  obtain ⟨bx, hbx⟩ : ∃ x, w.heap.size = x := ⟨_, rfl⟩
  rw [hbx] at PB
  have SB := hS.fr FB
  have hbn : b ≠ bx := by omega
  have hcb := (FB.pt hp (by simp)).cell
  simp only [SS.cells, hwt] at hcb
  have cb := PB.cell
  replace FB := Lib.hid FB; replace SB := Lib.hid SB; replace PB := Lib.hid PB
  clear hp ho ht hS
  dsimp only [Ev.val]
  rcases hb with rfl | rfl | rfl
  · have h1 : ¬ a < s.r := by omega
    have h2 : ¬ s.m < a := by omega
    have hd : decide (a < s.r) = false := decide_eq_false h1
    have hd2 : decide (s.m < a) = false := decide_eq_false h2
    have hNe : (if (0 : Int) = 1 then max a s.m else a) = a := by rw [if_neg (by omega)]
    rw [hNe]
    clear hNe
    go_enter Try.func46, Try.ntmps46
    go_wp2_with fail
    go_quiet (fail)
    go_wp2_with fail
    obtain ⟨w1, hw1⟩ : ∃ x, wb.drewN nq = x := ⟨_, rfl⟩
    have F1 : Fr [] wb w1 := by rw [← hw1]; exact (Fr.refl [] wb).drewN nq
    have PB1 := F1.pt PB.out (by simp)
    have c1 := PB1.cell
    have S1 := SB.out.fr F1
    obtain ⟨vo1, vt1, hp1, ho1, ht1⟩ := SB.out.fr F1
    have hc1 := hp1.cell
    have hz1 := hp1.free
    simp only [SS.cells, hwt] at hc1
    have SN := ((S1.wait false 0 0).owe true 0 a).drew
    have FN := (((FB.out.trans F1).mono (ex' := [b]) (by simp)).three 8 9 10 (.bool false) (.int .i64 0) (.int .i64 0)).three 11 12 13 (.bool true) (.int .i64 0) (.int .i64 (a)) |>.drew
    have PN := (((((PB1.ne (p := ⟨b, 8, none⟩) (by simp; omega) (.bool false)).ne (p := ⟨b, 9, none⟩) (by simp; omega) (.int .i64 0)).ne (p := ⟨b, 10, none⟩) (by simp; omega) (.int .i64 0)).ne (p := ⟨b, 11, none⟩) (by simp; omega) (.bool true)).ne (p := ⟨b, 12, none⟩) (by simp; omega) (.int .i64 0)).ne (p := ⟨b, 13, none⟩) (by simp; omega) (.int .i64 (a)) |>.drew
    obtain ⟨wn, hwn⟩ : ∃ x, ((((((w1.setCell ⟨b, 8, none⟩ (.bool false)).setCell ⟨b, 9, none⟩ (.int .i64 0)).setCell ⟨b, 10, none⟩ (.int .i64 0)).setCell ⟨b, 11, none⟩ (.bool true)).setCell ⟨b, 12, none⟩ (.int .i64 0)).setCell ⟨b, 13, none⟩ (.int .i64 (a))).drew = x := ⟨_, rfl⟩
    rw [hwn] at SN FN PN
    have cn := PN.cell
    replace hwn := Lib.hid hwn; replace SN := Lib.hid SN; replace FN := Lib.hid FN; replace PN := Lib.hid PN; replace S1 := Lib.hid S1; replace PB1 := Lib.hid PB1; replace hp1 := Lib.hid hp1; replace ho1 := Lib.hid ho1; replace ht1 := Lib.hid ht1; replace F1 := Lib.hid F1
    clear cb hcb
    rw [hw1]
    clear hw1
    go_wp2_with fail
    go_region
    rw [hwn.out]
    go_wp2_with fail
    refine (told_any 5 (a) 0 wn).mono ?_
    rintro e w3 ⟨⟨v3, rfl, hv3⟩, f3⟩
    have S := SN.out.fr f3
    have F := FN.out.trans (f3.mono (by simp))
    have V := hv3.le FN.out.size
    clear cn hc1 hz1 hv3 f3
    go_wp2
    go_ret
    exact ⟨⟨_, rfl, V⟩, S, F⟩
  · rcases (by omega : a < s.m ∨ s.m < a ∨ a = s.m) with hm | hm | rfl
    · have hm : a < s.m := hm
      have hNe : (if (1 : Int) = 1 then max a s.m else a) = s.m := by exact (if_pos rfl).trans (by omega)
      rw [hNe]
      clear hNe
      go_enter Try.func46, Try.ntmps46
      go_wp2_with fail
      go_quiet (fail)
      go_wp2_with fail
      all_goals
        obtain ⟨w1, hw1⟩ : ∃ x, wb.drewN nq = x := ⟨_, rfl⟩
        have F1 : Fr [] wb w1 := by rw [← hw1]; exact (Fr.refl [] wb).drewN nq
        have PB1 := F1.pt PB.out (by simp)
        have c1 := PB1.cell
        have S1 := SB.out.fr F1
        obtain ⟨vo1, vt1, hp1, ho1, ht1⟩ := SB.out.fr F1
        have hc1 := hp1.cell
        have hz1 := hp1.free
        simp only [SS.cells, hwt] at hc1
        have SN := ((S1.wait false 0 0).owe true 1 s.m).drew
        have FN := (((FB.out.trans F1).mono (ex' := [b]) (by simp)).three 8 9 10 (.bool false) (.int .i64 0) (.int .i64 0)).three 11 12 13 (.bool true) (.int .i64 1) (.int .i64 (s.m)) |>.drew
        have PN := (((((PB1.ne (p := ⟨b, 8, none⟩) (by simp; omega) (.bool false)).ne (p := ⟨b, 9, none⟩) (by simp; omega) (.int .i64 0)).ne (p := ⟨b, 10, none⟩) (by simp; omega) (.int .i64 0)).ne (p := ⟨b, 11, none⟩) (by simp; omega) (.bool true)).ne (p := ⟨b, 12, none⟩) (by simp; omega) (.int .i64 1)).ne (p := ⟨b, 13, none⟩) (by simp; omega) (.int .i64 (s.m)) |>.drew
        obtain ⟨wn, hwn⟩ : ∃ x, ((((((w1.setCell ⟨b, 8, none⟩ (.bool false)).setCell ⟨b, 9, none⟩ (.int .i64 0)).setCell ⟨b, 10, none⟩ (.int .i64 0)).setCell ⟨b, 11, none⟩ (.bool true)).setCell ⟨b, 12, none⟩ (.int .i64 1)).setCell ⟨b, 13, none⟩ (.int .i64 (s.m))).drew = x := ⟨_, rfl⟩
        rw [hwn] at SN FN PN
        have cn := PN.cell
        replace hwn := Lib.hid hwn; replace SN := Lib.hid SN; replace FN := Lib.hid FN; replace PN := Lib.hid PN; replace S1 := Lib.hid S1; replace PB1 := Lib.hid PB1; replace hp1 := Lib.hid hp1; replace ho1 := Lib.hid ho1; replace ht1 := Lib.hid ht1; replace F1 := Lib.hid F1
        clear cb hcb
        rw [hw1]
        clear hw1
        go_wp2_with fail
        all_goals
          go_region
          rw [hwn.out]
          go_wp2_with fail
          refine (told_any 5 (s.m) 1 wn).mono ?_
          rintro e w3 ⟨⟨v3, rfl, hv3⟩, f3⟩
          have S := SN.out.fr f3
          have F := FN.out.trans (f3.mono (by simp))
          have V := hv3.le FN.out.size
          clear cn hc1 hz1 hv3 f3
          go_wp2
          go_ret
          exact ⟨⟨_, rfl, V⟩, S, F⟩
    · have hm : s.m < a := hm
      have hNe : (if (1 : Int) = 1 then max a s.m else a) = a := by exact (if_pos rfl).trans (by omega)
      rw [hNe]
      clear hNe
      go_enter Try.func46, Try.ntmps46
      go_wp2_with fail
      go_quiet (fail)
      go_wp2_with fail
      all_goals
        obtain ⟨w1, hw1⟩ : ∃ x, wb.drewN nq = x := ⟨_, rfl⟩
        have F1 : Fr [] wb w1 := by rw [← hw1]; exact (Fr.refl [] wb).drewN nq
        have PB1 := F1.pt PB.out (by simp)
        have c1 := PB1.cell
        have S1 := SB.out.fr F1
        obtain ⟨vo1, vt1, hp1, ho1, ht1⟩ := SB.out.fr F1
        have hc1 := hp1.cell
        have hz1 := hp1.free
        simp only [SS.cells, hwt] at hc1
        have SN := ((S1.wait false 0 0).owe true 1 a).drew
        have FN := (((FB.out.trans F1).mono (ex' := [b]) (by simp)).three 8 9 10 (.bool false) (.int .i64 0) (.int .i64 0)).three 11 12 13 (.bool true) (.int .i64 1) (.int .i64 (a)) |>.drew
        have PN := (((((PB1.ne (p := ⟨b, 8, none⟩) (by simp; omega) (.bool false)).ne (p := ⟨b, 9, none⟩) (by simp; omega) (.int .i64 0)).ne (p := ⟨b, 10, none⟩) (by simp; omega) (.int .i64 0)).ne (p := ⟨b, 11, none⟩) (by simp; omega) (.bool true)).ne (p := ⟨b, 12, none⟩) (by simp; omega) (.int .i64 1)).ne (p := ⟨b, 13, none⟩) (by simp; omega) (.int .i64 (a)) |>.drew
        obtain ⟨wn, hwn⟩ : ∃ x, ((((((w1.setCell ⟨b, 8, none⟩ (.bool false)).setCell ⟨b, 9, none⟩ (.int .i64 0)).setCell ⟨b, 10, none⟩ (.int .i64 0)).setCell ⟨b, 11, none⟩ (.bool true)).setCell ⟨b, 12, none⟩ (.int .i64 1)).setCell ⟨b, 13, none⟩ (.int .i64 (a))).drew = x := ⟨_, rfl⟩
        rw [hwn] at SN FN PN
        have cn := PN.cell
        replace hwn := Lib.hid hwn; replace SN := Lib.hid SN; replace FN := Lib.hid FN; replace PN := Lib.hid PN; replace S1 := Lib.hid S1; replace PB1 := Lib.hid PB1; replace hp1 := Lib.hid hp1; replace ho1 := Lib.hid ho1; replace ht1 := Lib.hid ht1; replace F1 := Lib.hid F1
        clear cb hcb
        rw [hw1]
        clear hw1
        go_wp2_with fail
        all_goals
          go_region
          rw [hwn.out]
          go_wp2_with fail
          refine (told_any 5 (a) 1 wn).mono ?_
          rintro e w3 ⟨⟨v3, rfl, hv3⟩, f3⟩
          have S := SN.out.fr f3
          have F := FN.out.trans (f3.mono (by simp))
          have V := hv3.le FN.out.size
          clear cn hc1 hz1 hv3 f3
          go_wp2
          go_ret
          exact ⟨⟨_, rfl, V⟩, S, F⟩
    · have hNe : (if (1 : Int) = 1 then max s.m s.m else s.m) = s.m := by exact (if_pos rfl).trans (by omega)
      rw [hNe]
      clear hNe
      go_enter Try.func46, Try.ntmps46
      go_wp2_with fail
      go_quiet (fail)
      go_wp2_with fail
      all_goals
        obtain ⟨w1, hw1⟩ : ∃ x, wb.drewN nq = x := ⟨_, rfl⟩
        have F1 : Fr [] wb w1 := by rw [← hw1]; exact (Fr.refl [] wb).drewN nq
        have PB1 := F1.pt PB.out (by simp)
        have c1 := PB1.cell
        have S1 := SB.out.fr F1
        obtain ⟨vo1, vt1, hp1, ho1, ht1⟩ := SB.out.fr F1
        have hc1 := hp1.cell
        have hz1 := hp1.free
        simp only [SS.cells, hwt] at hc1
        have SN := ((S1.wait false 0 0).owe true 1 s.m).drew
        have FN := (((FB.out.trans F1).mono (ex' := [b]) (by simp)).three 8 9 10 (.bool false) (.int .i64 0) (.int .i64 0)).three 11 12 13 (.bool true) (.int .i64 1) (.int .i64 (s.m)) |>.drew
        have PN := (((((PB1.ne (p := ⟨b, 8, none⟩) (by simp; omega) (.bool false)).ne (p := ⟨b, 9, none⟩) (by simp; omega) (.int .i64 0)).ne (p := ⟨b, 10, none⟩) (by simp; omega) (.int .i64 0)).ne (p := ⟨b, 11, none⟩) (by simp; omega) (.bool true)).ne (p := ⟨b, 12, none⟩) (by simp; omega) (.int .i64 1)).ne (p := ⟨b, 13, none⟩) (by simp; omega) (.int .i64 (s.m)) |>.drew
        obtain ⟨wn, hwn⟩ : ∃ x, ((((((w1.setCell ⟨b, 8, none⟩ (.bool false)).setCell ⟨b, 9, none⟩ (.int .i64 0)).setCell ⟨b, 10, none⟩ (.int .i64 0)).setCell ⟨b, 11, none⟩ (.bool true)).setCell ⟨b, 12, none⟩ (.int .i64 1)).setCell ⟨b, 13, none⟩ (.int .i64 (s.m))).drew = x := ⟨_, rfl⟩
        rw [hwn] at SN FN PN
        have cn := PN.cell
        replace hwn := Lib.hid hwn; replace SN := Lib.hid SN; replace FN := Lib.hid FN; replace PN := Lib.hid PN; replace S1 := Lib.hid S1; replace PB1 := Lib.hid PB1; replace hp1 := Lib.hid hp1; replace ho1 := Lib.hid ho1; replace ht1 := Lib.hid ht1; replace F1 := Lib.hid F1
        clear cb hcb
        rw [hw1]
        clear hw1
        go_wp2_with fail
        all_goals
          go_region
          rw [hwn.out]
          go_wp2_with fail
          refine (told_any 5 (s.m) 1 wn).mono ?_
          rintro e w3 ⟨⟨v3, rfl, hv3⟩, f3⟩
          have S := SN.out.fr f3
          have F := FN.out.trans (f3.mono (by simp))
          have V := hv3.le FN.out.size
          clear cn hc1 hz1 hv3 f3
          go_wp2
          go_ret
          exact ⟨⟨_, rfl, V⟩, S, F⟩
  · have hNe : (if (2 : Int) = 1 then max a s.m else a) = a := by rw [if_neg (by omega)]
    rw [hNe]
    clear hNe
    go_enter Try.func46, Try.ntmps46
    go_wp2_with fail
    go_quiet (fail)
    go_wp2_with fail
    obtain ⟨w1, hw1⟩ : ∃ x, wb.drewN nq = x := ⟨_, rfl⟩
    have F1 : Fr [] wb w1 := by rw [← hw1]; exact (Fr.refl [] wb).drewN nq
    have PB1 := F1.pt PB.out (by simp)
    have c1 := PB1.cell
    have S1 := SB.out.fr F1
    obtain ⟨vo1, vt1, hp1, ho1, ht1⟩ := SB.out.fr F1
    have hc1 := hp1.cell
    have hz1 := hp1.free
    simp only [SS.cells, hwt] at hc1
    have SN := ((S1.wait false 0 0).owe true 2 a).drew
    have FN := (((FB.out.trans F1).mono (ex' := [b]) (by simp)).three 8 9 10 (.bool false) (.int .i64 0) (.int .i64 0)).three 11 12 13 (.bool true) (.int .i64 2) (.int .i64 (a)) |>.drew
    have PN := (((((PB1.ne (p := ⟨b, 8, none⟩) (by simp; omega) (.bool false)).ne (p := ⟨b, 9, none⟩) (by simp; omega) (.int .i64 0)).ne (p := ⟨b, 10, none⟩) (by simp; omega) (.int .i64 0)).ne (p := ⟨b, 11, none⟩) (by simp; omega) (.bool true)).ne (p := ⟨b, 12, none⟩) (by simp; omega) (.int .i64 2)).ne (p := ⟨b, 13, none⟩) (by simp; omega) (.int .i64 (a)) |>.drew
    obtain ⟨wn, hwn⟩ : ∃ x, ((((((w1.setCell ⟨b, 8, none⟩ (.bool false)).setCell ⟨b, 9, none⟩ (.int .i64 0)).setCell ⟨b, 10, none⟩ (.int .i64 0)).setCell ⟨b, 11, none⟩ (.bool true)).setCell ⟨b, 12, none⟩ (.int .i64 2)).setCell ⟨b, 13, none⟩ (.int .i64 (a))).drew = x := ⟨_, rfl⟩
    rw [hwn] at SN FN PN
    have cn := PN.cell
    replace hwn := Lib.hid hwn; replace SN := Lib.hid SN; replace FN := Lib.hid FN; replace PN := Lib.hid PN; replace S1 := Lib.hid S1; replace PB1 := Lib.hid PB1; replace hp1 := Lib.hid hp1; replace ho1 := Lib.hid ho1; replace ht1 := Lib.hid ht1; replace F1 := Lib.hid F1
    clear cb hcb
    rw [hw1]
    clear hw1
    go_wp2_with fail
    go_region
    rw [hwn.out]
    go_wp2_with fail
    refine (told_any 5 (a) 2 wn).mono ?_
    rintro e w3 ⟨⟨v3, rfl, hv3⟩, f3⟩
    have S := SN.out.fr f3
    have F := FN.out.trans (f3.mono (by simp))
    have V := hv3.le FN.out.size
    clear cn hc1 hz1 hv3 f3
    go_wp2
    go_ret
    exact ⟨⟨_, rfl, V⟩, S, F⟩
end Go.Proofs.Ytjgmlnkbplgloaa
