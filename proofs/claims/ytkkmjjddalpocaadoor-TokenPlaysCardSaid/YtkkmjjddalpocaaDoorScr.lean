import Derived.Test.YtkkmjjddalpocaaDoorLaw2
namespace Go.Proofs.YtkkmjjddalpocaaDoor
open Go.RowKit
set_option linter.unusedVariables false
set_option linter.unusedSimpArgs false
set_option maxHeartbeats 2000000
set_option maxRecDepth 20000
/-- A slice of events that came in. -/
def EvArg (w : World) (v : Value) (l : List Ev) : Prop := ∃ (o : Option Addr) (cap : Nat), v = .slice o l.length cap ∧ ∀ (i : Nat) (h : i < l.length), ∃ b off, o = some ⟨b, off, none⟩ ∧ b < w.heap.size ∧ ∀ j, j < 6 → w.cell? ⟨b, off + i * 6 + j, none⟩ = l[i].cells[j]?
def stepT (s : TS) (e : Ev) : TS × List Ev × Int := if onFine e then onSt s e else (s, [], 1)
theorem step_sim (s : TS) (e : Ev) (hi : Inv s) : (if onFine e then ronSt (toRS s) e else (toRS s, [], 1)) = (toRS (stepT s e).1, (stepT s e).2.1, (stepT s e).2.2) ∧ Inv (stepT s e).1 := by
  unfold stepT
  by_cases h : onFine e = true
  · rw [if_pos h, if_pos h]; exact sim_on s e hi h
  · rw [if_neg h, if_neg h]; exact ⟨rfl, hi⟩
theorem new_both {m t : Int} (h : setOk m t = true) : Inv ⟨true, m, t, -1, -1, -1, -1⟩ ∧ fillR m t = toRS ⟨true, m, t, -1, -1, -1, -1⟩ := ⟨⟨rfl, h⟩, rfl⟩
theorem Pt.apart {w : World} {b b2 : Nat} {s : TS} {r : RS} (hp : Pt w b TSide s.cells) (hq : Pt w b2 RSide r.cells) : b ≠ b2 := fun e => by
  subst e
  have := Option.some.inj (Eq.trans (Eq.symm hp) hq)
  simp [TS.cells, RS.cells] at this
/-- Both sides meet an event. -/
theorem scripts_any (m t : Int) (lv : Value) (l : List Ev) (w : World) (hT : Tab w) (hE : EvArg w lv l) :
    Calls Tryd.prog 4 #[.int .i64 m, .int .i64 t, lv] w fun e w' => e = .returned (.bool true) ∧ Fr [] w w' := by
  have hTl := hT.lt
  obtain ⟨o, cap, rfl, hl⟩ := hE
  cases hs : setOk m t
  · have h1 := tNew_bad m t w hs
    have h2 := fun w => rNew_bad m t w (by rw [← new_sim]; exact hs)
    go_enter Tryd.func4, Tryd.ntmps4
    go_wp2_with fail
    refine h1.mono ?_
    rintro e w1 ⟨rfl, f1⟩
    go_wp2_with fail
    refine (h2 w1).mono ?_
    rintro e w2 ⟨rfl, f2⟩
    have f02 := f1.trans f2
    go_wp2
    refine wp_loop_once ?_
    go_wp2_with fail
    refine (sane_any w2 (hT.fr f02 (by simp) hTl)).mono ?_
    rintro e w3 ⟨rfl, f3⟩
    go_wp2
    go_ret
    exact ⟨rfl, f02.trans f3⟩
  · have h1 := tNew_ok m t w hs
    have h2 := fun w => rNew_ok m t w (by rw [← new_sim]; exact hs)
    obtain ⟨hi, hfill⟩ := new_both hs
    rw [hfill] at h2
    go_enter Tryd.func4, Tryd.ntmps4
    go_wp2_with fail
    refine h1.mono ?_
    rintro e w1 ⟨rfl, p1, f1⟩
    go_wp2_with fail
    refine (h2 w1).mono ?_
    rintro e w2 ⟨b2, rfl, hb2, q2, f2⟩
    have hlt := p1.lt
    have f02 := f1.trans f2
    have p2 := f2.pt p1 (by simp)
    obtain ⟨b1, hb1⟩ : ∃ b, w.heap.size = b := ⟨_, rfl⟩
    rw [hb1] at p2
    simp only [hb1]
    clear p1 f1 f2 h1 h2
    go_wp2_with fail
    go_loopw [11] (fun v wr => ∃ (i : Nat) (s : TS), i ≤ l.length ∧ v = .int .i64 i ∧ Inv s ∧ Pt wr b1 TSide s.cells ∧ Pt wr b2 RSide (toRS s).cells ∧ Fr [] w wr) (fun v _ => (l.length - intOf v).toNat)
    case atStart => exact ⟨0, _, by omega, rfl, hi, p2, q2, f02⟩
    case round =>
      obtain ⟨i, s, hi0, rfl, hI, hp, hq, hf⟩ := hrel
      have hne := hp.apart hq
      have hTr := hT.fr hf (by simp) hTl
      by_cases hlt : (i : Int) < l.length ∧ (i : Int) < 300
      · obtain ⟨hlt1, hlt2⟩ := hlt
        have hil : i < l.length := by omega
        obtain ⟨B, off, rfl, hB, hc⟩ := hl i hil
        have hc1 : ∀ j, j < 6 → wr.cell? ⟨B, off + i * 6 + j, none⟩ = l[i].cells[j]? := fun j hj => (hf.cell (p := ⟨B, off + i * 6 + j, none⟩) hB (by simp)).trans (hc j hj)
        obtain ⟨ev, hev⟩ : ∃ ev, l[i] = ev := ⟨_, rfl⟩
        rw [hev] at hc1
        replace hl := Lib.hid hl
        have HC := Lib.hid hc
        have HE := Lib.hid hev
        have HF := Lib.hid hf
        clear hc hev hf hT hTl p2 q2 f02 hi hfill
        obtain ⟨way, kind, ea, eb, ec, data⟩ := ev
        have c0 := hc1 0 (by omega); have c1 := hc1 1 (by omega); have c2 := hc1 2 (by omega); have c3 := hc1 3 (by omega); have c4 := hc1 4 (by omega); have c5 := hc1 5 (by omega)
        simp only [Ev.cells, Nat.add_zero, List.getElem?_cons_zero, List.getElem?_cons_succ] at c0 c1 c2 c3 c4 c5
        clear hc1

        go_wp2_with fail
        refine (on_any b1 s ⟨way, kind, ea, eb, ec, data⟩ wr hp hTr hI.good).mono ?_
        clear c0 c1 c2 c3 c4 c5
        rintro e w3 ⟨⟨v, rfl, hv⟩, p3, f3⟩
        obtain ⟨hstep, hI2⟩ := step_sim s ⟨way, kind, ea, eb, ec, data⟩ hI
        have hv' : EvRes wr.heap.size w3 v (stepT s ⟨way, kind, ea, eb, ec, data⟩).2.1 := hv
        have p3' : Pt w3 b1 TSide (stepT s ⟨way, kind, ea, eb, ec, data⟩).1.cells := p3
        have hr : (if onFine ⟨way, kind, ea, eb, ec, data⟩ = true then onSt s ⟨way, kind, ea, eb, ec, data⟩ else (s, [], 1)).2.2 = (stepT s ⟨way, kind, ea, eb, ec, data⟩).2.2 := rfl
        rw [hr]
        clear hv p3 hr
        have q3 := f3.pt hq (by simp; exact fun h => hne h.symm)
        have hT3 := hTr.fr f3 (by have := hTr.ne hp (by simp [TS.cells]); simpa using this.symm) hTr.lt
        have g3 : Fr [] w w3 := HF.out.step f3 (by intro x hx; simp at hx; omega)
        have hc3 : ∀ j, j < 6 → w3.cell? ⟨B, off + i * 6 + j, none⟩ = l[i].cells[j]? := fun j hj => (g3.cell (p := ⟨B, off + i * 6 + j, none⟩) hB (by simp)).trans (HC.out j hj)
        rw [HE.out] at hc3
        have c0 := hc3 0 (by omega); have c1 := hc3 1 (by omega); have c2 := hc3 2 (by omega); have c3 := hc3 3 (by omega); have c4 := hc3 4 (by omega); have c5 := hc3 5 (by omega)
        simp only [Ev.cells, Nat.add_zero, List.getElem?_cons_zero, List.getElem?_cons_succ] at c0 c1 c2 c3 c4 c5
        have HO := ron_any b2 (toRS s) ⟨way, kind, ea, eb, ec, data⟩ w3 q3 hI.1
        rw [hstep] at HO
        obtain ⟨s', hs'⟩ : ∃ x, (stepT s ⟨way, kind, ea, eb, ec, data⟩).1 = x := ⟨_, rfl⟩
        obtain ⟨L, hL⟩ : ∃ x, (stepT s ⟨way, kind, ea, eb, ec, data⟩).2.1 = x := ⟨_, rfl⟩
        obtain ⟨cd, hcd⟩ : ∃ x, (stepT s ⟨way, kind, ea, eb, ec, data⟩).2.2 = x := ⟨_, rfl⟩
        rw [hs', hL, hcd] at HO
        rw [hs'] at p3' hI2
        rw [hL] at hv'
        rw [hcd]
        clear hs' hL hcd hstep hc3
        replace HO := Lib.hid HO
        replace f3 := Lib.hid f3
        replace g3 := Lib.hid g3
        replace hv' := Lib.hid hv'
        go_wp2_with fail
        refine HO.out.mono ?_
        clear c0 c1 c2 c3 c4 c5
        rintro e w4 ⟨⟨v2, rfl, hv2⟩, q4, f4⟩
        have p4 := f4.pt p3' (by simpa using hne)
        have g4 : Fr [] w w4 := g3.out.step f4 (by intro x hx; simp at hx; omega)
        have hv4 : EvRes wr.heap.size w4 v L := by
          rcases hv'.out with h | ⟨B5, e5, rfl, rfl, h1, h2⟩
          · exact .inl h
          · refine .inr ⟨B5, e5, rfl, rfl, f4.pt h1 ?_, h2⟩
            have := hq.lt
            simp; omega
        have HV := Lib.hid (events_same _ _ v v2 L w4 hv4 hv2)
        have HS := Lib.hid (fun k => same_any b1 b2 s' (w4.drewN k) (p4.drewN k) (q4.drewN k) hI2)
        clear HO
        replace f4 := Lib.hid f4
        go_wp2_with fail
        refine HV.out.mono ?_
        rintro e w5 ⟨rfl, k, rfl⟩
        go_wp2_with fail
        refine (HS.out k).mono ?_
        rintro e w5 ⟨rfl, k2, rfl⟩
        go_wp2
        go_roundw
        case rel => exact ⟨i + 1, s', by omega, by go_num, hI2, p4.drewN _, q4.drewN _, g4.drewN _⟩
        case measure => simp [intOf]; omega
      · rcases (by omega : ¬ ((i : Int) < l.length) ∨ ((i : Int) < l.length ∧ ¬ (i : Int) < 300)) with h | ⟨h, h'⟩
        all_goals
          clear hlt
          replace hl := Lib.hid hl
          replace hf := Lib.hid hf
          go_wp2_with fail
          refine (sane_any wr hTr).mono ?_
          rintro e w3 ⟨rfl, f3⟩
          go_wp2
          go_ret
          exact ⟨rfl, hf.out.trans f3⟩
end Go.Proofs.YtkkmjjddalpocaaDoor
