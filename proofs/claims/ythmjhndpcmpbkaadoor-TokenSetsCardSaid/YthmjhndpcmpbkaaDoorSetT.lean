import Derived.Test.YthmjhndpcmpbkaaDoorCop
namespace Go.Proofs.YthmjhndpcmpbkaaDoor
open Go.RowKit
set_option linter.unusedVariables false
set_option linter.unusedSimpArgs false
set_option maxHeartbeats 2000000
set_option maxRecDepth 20000
theorem sets_any (m t to an : Int) (lv : Value) (l : List Ev) (w : World) (hT : Tab w) (hE : EvArg w lv l) :
    Calls Tryd.prog 5 #[.agg #[.int .i64 m, .int .i64 t, .int .i64 to, .int .i64 an, lv]] w fun e w' => e = .returned (.bool true) ∧ Fr [] w w' := by
  have hTl := hT.lt
  obtain ⟨o, cap, rfl, hl⟩ := hE
  have hC := Pt.newA w TCase #[.int .i64 m, .int .i64 t, .int .i64 to, .int .i64 an, .slice o l.length cap]
  obtain ⟨w0, hw0⟩ : ∃ x, w.alloc (.cells #[.int .i64 m, .int .i64 t, .int .i64 to, .int .i64 an, .slice o l.length cap] TCase) = x := ⟨_, rfl⟩
  have f0 : Fr [] w w0 := by rw [← hw0]; exact (Fr.refl [] w).alloc _
  rw [hw0] at hC
  obtain ⟨bc, hbc⟩ : ∃ x, w.heap.size = x := ⟨_, rfl⟩
  rw [hbc] at hC
  have cC := hC.cell
  have hT0 := hT.fr f0 (by simp) hTl
  have hC0 := hC.lt
  cases hs : setOk m t
  · have h1 := Lib.hid (tNew_bad m t w0 hs)
    have f0 := Lib.hid f0
    have hT0 := Lib.hid hT0
    clear hT
    go_enter Tryd.func5, Tryd.ntmps5
    go_wp2_with fail
    refine h1.out.mono ?_
    rintro e w1 ⟨rfl, f1⟩
    have T1 := Lib.hid (hT0.out.fr f1 (by simp) hT0.out.lt)
    have g1 := Lib.hid (f0.out.trans f1)
    clear f1
    go_wp2_with fail
    refine (sane_any w1 T1.out).mono ?_
    rintro e w3 ⟨rfl, f3⟩
    go_wp2
    go_ret
    exact ⟨rfl, g1.out.trans f3⟩
  · have h1 := Lib.hid (tNew_ok m t w0 hs)
    obtain ⟨hi, hfill⟩ := new_both hs
    clear hfill hT
    obtain ⟨s0, hs0⟩ : ∃ s : TS, s = ⟨true, m, t, -1, -1, -1, -1⟩ := ⟨_, rfl⟩
    rw [← hs0] at h1 hi
    replace f0 := Lib.hid f0
    replace hT0 := Lib.hid hT0
    clear hs0
    have hs1 := Lib.hid hs
    clear hs
    go_enter Tryd.func5, Tryd.ntmps5
    go_wp2_with fail
    refine h1.out.mono ?_
    rintro e w1 ⟨rfl, p1, f1⟩
    have hb1 : bc < w0.heap.size := hC0
    obtain ⟨b1, hb1e⟩ : ∃ x, w0.heap.size = x := ⟨_, rfl⟩
    rw [hb1e] at p1 hb1
    simp only [hb1e]
    have g3 : Fr [] w w1 := f0.out.trans f1
    have C3 : Pt w1 bc TCase [.int .i64 m, .int .i64 t, .int .i64 to, .int .i64 an, .slice o l.length cap] := f1.pt hC (by simp)
    have T3 : Tab w1 := hT0.out.fr f1 (by simp) hT0.out.lt
    clear h1 hC cC hT0 f0 f1
    go_wp2_with fail
    go_loopw [5] (fun v wr => ∃ (i : Nat) (s : TS), i ≤ l.length ∧ v = .int .i64 i ∧ Inv s ∧ Pt wr b1 TSide s.cells ∧ Fr [b1] w1 wr) (fun v _ => (l.length - intOf v).toNat)
    case atStart => exact ⟨0, s0, by omega, rfl, hi, p1, Fr.refl _ _⟩
    case round =>
      obtain ⟨i, s, hi0, rfl, hI, hp, hf⟩ := hrel
      have hTb1 := T3.ne p1 (by simp [TS.cells])
      have Tr : Tab wr := T3.fr hf (by simp; exact fun h => hTb1 h.symm) T3.lt
      have Cr := hf.pt C3 (by simp; omega)
      have cr := Cr.cell
      by_cases hlt : (i : Int) < l.length ∧ (i : Int) < 100
      · obtain ⟨hlt1, hlt2⟩ := hlt
        have hil : i < l.length := by omega
        obtain ⟨B, off, rfl, hB, hc⟩ := hl i hil
        have hB1 : B ≠ b1 := by omega
        have hc1 : ∀ j, j < 6 → wr.cell? ⟨B, off + i * 6 + j, none⟩ = l[i].cells[j]? := fun j hj => ((hf.cell (p := ⟨B, off + i * 6 + j, none⟩) (Nat.lt_of_lt_of_le hB g3.size) (by simp; exact hB1)).trans (g3.cell (p := ⟨B, off + i * 6 + j, none⟩) hB (by simp))).trans (hc j hj)
        obtain ⟨ev, hev⟩ : ∃ ev, l[i] = ev := ⟨_, rfl⟩
        rw [hev] at hc1
        replace hl := Lib.hid hl
        have A1 := Lib.hid (on_step b1 s ev wr hp Tr hI)
        obtain ⟨way, kind, ea, eb, ec, data⟩ := ev
        have c0 := hc1 0 (by omega); have c1 := hc1 1 (by omega); have c2 := hc1 2 (by omega); have c3 := hc1 3 (by omega); have c4 := hc1 4 (by omega); have c5 := hc1 5 (by omega)
        simp only [Ev.cells, Nat.add_zero, List.getElem?_cons_zero, List.getElem?_cons_succ] at c0 c1 c2 c3 c4 c5
        clear hc1 hc hev
        have hI2 := Lib.hid (step_sim s ⟨way, kind, ea, eb, ec, data⟩ hI).2
        replace C3 := Lib.hid C3
        replace g3 := Lib.hid g3
        replace T3 := Lib.hid T3
        replace Tr := Lib.hid Tr
        replace hI := Lib.hid hI
        replace hf := Lib.hid hf
        go_wp2_with fail
        refine A1.out.mono ?_
        clear c0 c1 c2 c3 c4 c5 A1
        rintro e w4 ⟨⟨v, rfl, hv⟩, p4, f4⟩
        clear hv
        have F4 : Fr [b1] w1 w4 := hf.out.trans f4
        replace p4 := Lib.hid p4
        obtain ⟨cd, hcd⟩ : ∃ x, (stepT s ⟨way, kind, ea, eb, ec, data⟩).2.2 = x := ⟨_, rfl⟩
        rw [hcd]
        clear hcd
        go_wp2
        go_roundw
        case rel => exact ⟨i + 1, _, by omega, by go_num, hI2.out, p4.out, F4⟩
        case measure => simp [intOf]; omega
      · have G : Fr [] w wr := g3.step hf (by intro x hx; simp at hx; omega)
        replace G := Lib.hid G
        have M := Lib.hid (mine_is b1 s wr hp hI.1)
        have N := Lib.hid (theirs_is b1 s wr hp hI.1)
        have hb1l := hp.lt
        replace hl := Lib.hid hl
        replace hf := Lib.hid hf
        replace C3 := Lib.hid C3
        replace g3 := Lib.hid g3
        replace T3 := Lib.hid T3
        replace Tr := Lib.hid Tr
        replace hp := Lib.hid hp
        cases hs2 : setOk to an
        · have R1 := Lib.hid (rNew_bad to an wr (by rw [← new_sim]; exact hs2))
          rcases (by omega : ¬ ((i : Int) < l.length) ∨ ((i : Int) < l.length ∧ ¬ (i : Int) < 100)) with h | ⟨h, h'⟩
          all_goals
            clear hlt
            go_wp2_with fail
            refine M.out.mono ?_
            rintro e w' ⟨rfl, rfl⟩
            go_wp2_with fail
            refine N.out.mono ?_
            rintro e w' ⟨rfl, rfl⟩
            go_wp2_with fail
            refine R1.out.mono ?_
            rintro e w4 ⟨rfl, f4⟩
            have cr4 := (f4.pt Cr (by simp)).cell
            have S := Lib.hid (tSet_bad b1 s to an w4 (f4.pt hp.out (by simp)) (.inr hs2))
            have M4 := Lib.hid (mine_is b1 s w4 (f4.pt hp.out (by simp)) hI.1)
            have N4 := Lib.hid (theirs_is b1 s w4 (f4.pt hp.out (by simp)) hI.1)
            have T4 := Lib.hid (Tr.out.fr f4 (by simp) Tr.out.lt)
            have G4 := Lib.hid (G.out.trans f4)
            clear cr f4
            go_wp2_with fail
            refine S.out.mono ?_
            rintro e w' ⟨rfl, rfl⟩
            go_wp2_with fail
            refine M4.out.mono ?_
            rintro e w' ⟨rfl, rfl⟩
            go_wp2_with fail
            refine N4.out.mono ?_
            rintro e w' ⟨rfl, rfl⟩
            go_wp2_with fail
            refine (sane_any w4 T4.out).mono ?_
            rintro e w3 ⟨rfl, f3⟩
            go_wp2
            go_ret
            exact ⟨rfl, G4.out.trans f3⟩
        · have RN := fun w => rNew_ok to an w (by rw [← new_sim]; exact hs2)
          obtain ⟨hi2, hfill⟩ := new_both hs2
          rw [hfill] at RN
          replace RN := Lib.hid RN
          clear hfill
          rcases (by omega : ¬ ((i : Int) < l.length) ∨ ((i : Int) < l.length ∧ ¬ (i : Int) < 100)) with h | ⟨h, h'⟩
          all_goals
            clear hlt
            go_wp2_with fail
            refine M.out.mono ?_
            rintro e w' ⟨rfl, rfl⟩
            go_wp2_with fail
            refine N.out.mono ?_
            rintro e w' ⟨rfl, rfl⟩
            go_wp2_with fail
            refine (RN.out wr).mono ?_
            rintro e w4 ⟨b4, rfl, hb4, q4, f4⟩
            have cr4 := (f4.pt Cr (by simp)).cell
            have C4 := Lib.hid (f4.pt Cr (by simp))
            have S := Lib.hid (tSet_ok b1 s to an w4 (f4.pt hp.out (by simp)) hI.1 hs2)
            have T4 := Lib.hid (Tr.out.fr f4 (by simp) Tr.out.lt)
            have G4 := Lib.hid (G.out.trans f4)
            have z4 := f4.size
            have nt4 := Lib.hid (T4.out.ne (f4.pt hp.out (by simp)) (by simp [TS.cells]))
            clear cr f4
            replace q4 := Lib.hid q4
            go_wp2_with fail
            refine S.out.mono ?_
            rintro e w5 ⟨rfl, p5, f5⟩
            have C5 := Lib.hid (f5.pt C4.out (by simp; omega))
            have cr5 := C5.out.cell
            have T5 := Lib.hid (T4.out.fr f5 (by simpa using nt4.out.symm) T4.out.lt)
            have G5 := Lib.hid (G4.out.step f5 (by intro x hx; simp at hx; omega))
            replace p5 := Lib.hid p5
            clear cr4 f5
            go_wp2_with fail
            refine (RN.out w5).mono ?_
            rintro e w6 ⟨b6, rfl, hb6, q6, f6⟩
            have p6 := f6.pt p5.out (by simp)
            have HS := Lib.hid (same_any b1 b6 _ w6 p6 q6 hi2)
            have T6 := Lib.hid (T5.out.fr f6 (by simp) T5.out.lt)
            have G6 := Lib.hid (G5.out.trans f6)
            clear cr5 f6 p6 q6
            go_wp2_with fail
            refine HS.out.mono ?_
            rintro e w7 ⟨rfl, k, rfl⟩
            go_wp2_with fail
            refine (sane_any (w6.drewN k) T6.out).mono ?_
            rintro e w8 ⟨rfl, f8⟩
            go_wp2
            go_ret
            exact ⟨rfl, (G6.out.drewN k).trans f8⟩
end Go.Proofs.YthmjhndpcmpbkaaDoor
