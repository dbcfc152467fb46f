import Derived.Test.YtkkmjjddalpocaaDoorScr
namespace Go.Proofs.YtkkmjjddalpocaaDoor
open Go.RowKit
set_option linter.unusedVariables false
set_option linter.unusedSimpArgs false
set_option maxHeartbeats 2000000
set_option maxRecDepth 20000
abbrev TCase : TypeId := 24
theorem on_step (b : Nat) (s : TS) (e : Ev) (w : World) (hp : Pt w b TSide s.cells) (hT : Tab w) (hg : Inv s) :
    Calls Tryd.prog 13 #[.pointer (some ⟨b, 0, none⟩), e.val] w (OnPost b w (stepT s e)) := on_any b s e w hp hT hg.good
theorem mine_is (b : Nat) (s : TS) (w : World) (hp : Pt w b TSide s.cells) (hm : s.made = true) : Calls Tryd.prog 15 #[.pointer (some ⟨b, 0, none⟩)] w fun e w' => e = .returned (.int .i64 s.mine) ∧ w = w' := by
  have := tMine_any b s w hp
  rwa [if_pos hm] at this
theorem theirs_is (b : Nat) (s : TS) (w : World) (hp : Pt w b TSide s.cells) (hm : s.made = true) : Calls Tryd.prog 16 #[.pointer (some ⟨b, 0, none⟩)] w fun e w' => e = .returned (.int .i64 s.theirs) ∧ w = w' := by
  have := tTheirs_any b s w hp
  rwa [if_pos hm] at this
theorem copies_any (m t to an : Int) (lv : Value) (l : List Ev) (w : World) (hT : Tab w) (hE : EvArg w lv l) :
    Calls Tryd.prog 3 #[.agg #[.int .i64 m, .int .i64 t, .int .i64 to, .int .i64 an, lv]] w fun e w' => e = .returned (.bool true) ∧ Fr [] w w' := by
  have hTl := hT.lt
  obtain ⟨o, cap, rfl, hl⟩ := hE
  have hC := Pt.newA w TCase #[.int .i64 m, .int .i64 t, .int .i64 to, .int .i64 an, .slice o l.length cap]
  obtain ⟨w0, hw0⟩ : ∃ x, w.alloc (.cells #[.int .i64 m, .int .i64 t, .int .i64 to, .int .i64 an, .slice o l.length cap] TCase) = x := ⟨_, rfl⟩
  have f0 : Fr [] w w0 := by rw [← hw0]; exact (Fr.refl [] w).alloc _
  rw [hw0] at hC
  obtain ⟨bc, hbc⟩ : ∃ x, w.heap.size = x := ⟨_, rfl⟩
  rw [hbc] at hC
  have cC := hC.cell
  have hT0 := hT.fr f0 (by simp) hTl
  have hC0 := hC.lt
  cases hs : setOk m t
  · have h1 := Lib.hid (tNew_bad m t w0 hs)
    have f0 := Lib.hid f0
    have hT0 := Lib.hid hT0
    clear hT
    go_enter Tryd.func3, Tryd.ntmps3
    go_wp2_with fail
    refine h1.out.mono ?_
    rintro e w1 ⟨rfl, f1⟩
    have T1 := Lib.hid (hT0.out.fr f1 (by simp) hT0.out.lt)
    have g1 := Lib.hid (f0.out.trans f1)
    clear f1
    go_wp2_with fail
    refine (sane_any w1 T1.out).mono ?_
    rintro e w3 ⟨rfl, f3⟩
    go_wp2
    go_ret
    exact ⟨rfl, g1.out.trans f3⟩
  · have h1 := Lib.hid (tNew_ok m t w0 hs)
    obtain ⟨hi, hfill⟩ := new_both hs
    clear hfill hT
    obtain ⟨s0, hs0⟩ : ∃ s : TS, s = ⟨true, m, t, -1, -1, -1, -1⟩ := ⟨_, rfl⟩
    rw [← hs0] at h1 hi
    replace f0 := Lib.hid f0
    replace hT0 := Lib.hid hT0
    replace hs0 := Lib.hid hs0
    go_enter Tryd.func3, Tryd.ntmps3
    go_wp2_with fail
    refine h1.out.mono ?_
    rintro e w1 ⟨rfl, p1, f1⟩
    have hb1 : bc < w0.heap.size := hC0
    obtain ⟨b1, hb1e⟩ : ∃ x, w0.heap.size = x := ⟨_, rfl⟩
    rw [hb1e] at p1 hb1
    simp only [hb1e]
    have k1 := Lib.hid (tCopy_any b1 s0 w1 p1 hi.1)
    clear h1
    replace f1 := Lib.hid f1
    have P1 := Lib.hid p1
    go_wp2_with fail
    refine k1.out.mono ?_
    rintro e w2 ⟨rfl, x2, f2⟩
    have hb2 : b1 < w1.heap.size := p1.lt
    have p2 := f2.pt p1 (by simp)
    obtain ⟨b2, hb2e⟩ : ∃ x, w1.heap.size = x := ⟨_, rfl⟩
    rw [hb2e] at x2 hb2
    simp only [hb2e]
    have k2 := Lib.hid (tCopy_any b1 s0 w2 p2 hi.1)
    clear k1 P1
    replace f2 := Lib.hid f2
    go_wp2_with fail
    refine k2.out.mono ?_
    rintro e w3 ⟨rfl, y3, f3⟩
    have hb3 : b2 < w2.heap.size := x2.lt
    have p3 := f3.pt p2 (by simp)
    have x3 := f3.pt x2 (by simp)
    obtain ⟨b3, hb3e⟩ : ∃ x, w2.heap.size = x := ⟨_, rfl⟩
    rw [hb3e] at y3 hb3
    simp only [hb3e]
    have g3 : Fr [] w w3 := f0.out.trans (f1.out.trans (f2.out.trans f3))
    have C3 : Pt w3 bc TCase [.int .i64 m, .int .i64 t, .int .i64 to, .int .i64 an, .slice o l.length cap] := (f1.out.trans (f2.out.trans f3)).pt hC (by simp)
    have T3 : Tab w3 := hT0.out.fr (f1.out.trans (f2.out.trans f3)) (by simp) hT0.out.lt
    clear k2 hC cC hT0 f0 f1 f2 f3 p1 p2 x2
    go_wp2_with fail
    go_loopw [7] (fun v wr => ∃ (i : Nat) (s : TS), i ≤ l.length ∧ v = .int .i64 i ∧ Inv s ∧ Pt wr b1 TSide s.cells ∧ Pt wr b2 TSide s.cells ∧ Fr [b1, b2] w3 wr) (fun v _ => (l.length - intOf v).toNat)
    case atStart => exact ⟨0, s0, by omega, rfl, hi, p3, x3, Fr.refl _ _⟩
    case round =>
      obtain ⟨i, s, hi0, rfl, hI, hp, hx, hf⟩ := hrel
      have hTb1 := T3.ne p3 (by simp [TS.cells])
      have hTb2 := T3.ne x3 (by simp [TS.cells])
      have Tr : Tab wr := T3.fr hf (by simp; exact ⟨fun h => hTb1 h.symm, fun h => hTb2 h.symm⟩) T3.lt
      have Cr := hf.pt C3 (by simp; omega)
      have cr := Cr.cell
      by_cases hlt : (i : Int) < l.length ∧ (i : Int) < 100
      · obtain ⟨hlt1, hlt2⟩ := hlt
        have hil : i < l.length := by omega
        obtain ⟨B, off, rfl, hB, hc⟩ := hl i hil
        have HB : B < w.heap.size := hB
        have hB1 : B ≠ b1 := by omega
        have hB2 : B ≠ b2 := by omega
        have hc1 : ∀ w', Fr [b1, b2] w3 w' → ∀ j, j < 6 → w'.cell? ⟨B, off + i * 6 + j, none⟩ = l[i].cells[j]? := fun w' hf j hj => ((hf.cell (p := ⟨B, off + i * 6 + j, none⟩) (Nat.lt_of_lt_of_le HB g3.size) (by simp; exact ⟨hB1, hB2⟩)).trans (g3.cell (p := ⟨B, off + i * 6 + j, none⟩) HB (by simp))).trans (hc j hj)
        obtain ⟨ev, hev⟩ : ∃ ev, l[i] = ev := ⟨_, rfl⟩
        rw [hev] at hc1
        replace hl := Lib.hid hl
        replace HC := Lib.hid hc1
        replace hf := Lib.hid hf
        have A1 := Lib.hid (on_step b1 s ev wr hp Tr hI)
        obtain ⟨way, kind, ea, eb, ec, data⟩ := ev
        have c0 := hc1 wr hf.out 0 (by omega); have c1 := hc1 wr hf.out 1 (by omega); have c2 := hc1 wr hf.out 2 (by omega); have c3 := hc1 wr hf.out 3 (by omega); have c4 := hc1 wr hf.out 4 (by omega); have c5 := hc1 wr hf.out 5 (by omega)
        simp only [Ev.cells, Nat.add_zero, List.getElem?_cons_zero, List.getElem?_cons_succ] at c0 c1 c2 c3 c4 c5
        clear hc1 hc hev
        obtain ⟨s', hs'⟩ : ∃ x, (stepT s ⟨way, kind, ea, eb, ec, data⟩).1 = x := ⟨_, rfl⟩
        obtain ⟨L, hL⟩ : ∃ x, (stepT s ⟨way, kind, ea, eb, ec, data⟩).2.1 = x := ⟨_, rfl⟩
        obtain ⟨cd, hcd⟩ : ∃ x, (stepT s ⟨way, kind, ea, eb, ec, data⟩).2.2 = x := ⟨_, rfl⟩
        have hI2 : Inv s' := hs' ▸ (step_sim s ⟨way, kind, ea, eb, ec, data⟩ hI).2
        replace C3 := Lib.hid C3
        replace g3 := Lib.hid g3
        replace T3 := Lib.hid T3
        replace Tr := Lib.hid Tr
        replace hI := Lib.hid hI
        go_wp2_with fail
        refine A1.out.mono ?_
        clear c0 c1 c2 c3 c4 c5 A1
        rintro e w4 ⟨⟨v, rfl, hv⟩, p4, f4⟩
        rw [hcd]
        rw [hL] at hv
        rw [hs'] at p4
        have x4 := f4.pt hx (by simp; omega)
        have C4 := f4.pt Cr (by simp; omega)
        have F4 : Fr [b1, b2] w3 w4 := hf.out.trans (f4.mono (by simp))
        have T4 := Tr.out.fr f4 (by simpa using hTb1.symm) Tr.out.lt
        have A2 := Lib.hid (on_step b2 s ⟨way, kind, ea, eb, ec, data⟩ w4 x4 T4 hI.out)
        have c0 := HC.out w4 F4 0 (by omega); have c1 := HC.out w4 F4 1 (by omega); have c2 := HC.out w4 F4 2 (by omega); have c3 := HC.out w4 F4 3 (by omega); have c4 := HC.out w4 F4 4 (by omega); have c5 := HC.out w4 F4 5 (by omega)
        simp only [Ev.cells, Nat.add_zero, List.getElem?_cons_zero, List.getElem?_cons_succ] at c0 c1 c2 c3 c4 c5
        replace f4 := Lib.hid f4
        replace F4 := Lib.hid F4
        replace hv := Lib.hid hv
        clear cr Cr T4
        have c4C := C4.cell
        go_wp2_with fail
        refine A2.out.mono ?_
        clear c0 c1 c2 c3 c4 c5 A2 c4C
        rintro e w5 ⟨⟨v2, rfl, hv2⟩, x5, f5⟩
        rw [hcd]
        rw [hL] at hv2
        rw [hs'] at x5
        have p5 := f5.pt p4 (by simp; omega)
        have C5 := f5.pt C4 (by simp; omega)
        have F5 : Fr [b1, b2] w3 w5 := F4.out.trans (f5.mono (by simp))
        have hv5 : EvRes wr.heap.size w5 v L := by
          rcases hv.out with h | ⟨B5, e5, rfl, rfl, h1, h2⟩
          · exact .inl h
          · refine .inr ⟨B5, e5, rfl, rfl, f5.pt h1 ?_, h2⟩
            have := hx.lt
            simp; omega
        have HV := Lib.hid (events_same _ _ v v2 L w5 hv5 hv2)
        have HS := Lib.hid (fun k => mine_is b1 s' (w5.drewN k) (p5.drewN k) hI2.1)
        have HX := Lib.hid (fun k => mine_is b2 s' (w5.drewN k) (x5.drewN k) hI2.1)
        replace hcd := Lib.hid hcd
        replace hs' := Lib.hid hs'
        replace hL := Lib.hid hL
        clear C4 C5 p4 x4 hp hx
        replace f5 := Lib.hid f5
        go_wp2_with fail
        refine HV.out.mono ?_
        rintro e w6 ⟨rfl, k, rfl⟩
        go_wp2_with fail
        refine (HS.out k).mono ?_
        rintro e w6 ⟨rfl, rfl⟩
        go_wp2_with fail
        refine (HX.out k).mono ?_
        rintro e w6 ⟨rfl, rfl⟩
        go_wp2
        go_roundw
        case rel => exact ⟨i + 1, s', by omega, by go_num, hI2, p5.drewN _, x5.drewN _, F5.drewN _⟩
        case measure => simp [intOf]; omega
      · have G : Fr [] w wr := g3.step hf (by intro x hx; simp at hx; omega)
        replace G := Lib.hid G
        have y5 := hf.pt y3 (by simp; omega)
        have M := Lib.hid (mine_is b3 s0 wr.drew y5.drew (by rw [hs0.out]))
        have N := Lib.hid (theirs_is b3 s0 wr.drew y5.drew (by rw [hs0.out]))
        rw [show s0.mine = m by rw [hs0.out]] at M
        rw [show s0.theirs = t by rw [hs0.out]] at N
        rcases (by omega : ¬ ((i : Int) < l.length) ∨ ((i : Int) < l.length ∧ ¬ (i : Int) < 100)) with h | ⟨h, h'⟩
        all_goals
          clear hlt
          replace hl := Lib.hid hl
          replace hf := Lib.hid hf
          go_wp2_with fail
          go_still_tail 13, (by kernel_rfl)
          still_call (M.out.mono fun _ _ h => ⟨h.1, h.2.symm⟩)
          repeat still_step
          still_call (N.out.mono fun _ _ h => ⟨h.1, h.2.symm⟩)
          repeat still_step
          refine wpStill_nil ?_
          go_wp2_with fail
          refine (sane_any wr.drew Tr).mono ?_
          rintro e w3 ⟨rfl, f3⟩
          go_wp2
          go_ret
          exact ⟨rfl, (G.out.drewN 1).trans f3⟩
end Go.Proofs.YtkkmjjddalpocaaDoor
