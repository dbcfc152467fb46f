import Derived.Test.YtjgmlnkbplgloaaR10
import Derived.Deep.RegionLaw
namespace Go.Proofs.Ytjgmlnkbplgloaa
open Go.RowKit
set_option linter.unusedVariables false
set_option linter.unusedSimpArgs false
set_option maxHeartbeats 8000000
set_option maxRecDepth 20000
theorem dn_acc5_1f (b : Nat) (s : RS) (bo bt : Option Nat) (e : Ev) (w : World) (h : RM w b s bo bt) (hk1 : e.kind = 5) (hb : e.b = 1) (hw : s.wt = false)  :
    Calls Try.prog 30 #[.pointer (some ⟨b, 0, none⟩), e.val] w (RbeR b bo bt w { s with wt := false, kt := true, kh := 1, kn := max e.a s.m } [⟨0, 5, max e.a s.m, 1, 0, ByteArray.empty⟩]) := by
  obtain ⟨way, kind, ea, eb, ec, ed⟩ := e
  try dsimp only at hb hk1 ⊢
  subst hk1; subst hb
  dsimp only [Ev.val]
  obtain ⟨wb, hwb⟩ : ∃ x, w.alloc (.cells #[.int .i64 way, .int .i64 5, .int .i64 ea, .int .i64 1, .int .i64 ec, .string ed] TEv) = x := ⟨_, rfl⟩
  have PB := Pt.newA w TEv #[.int .i64 way, .int .i64 5, .int .i64 ea, .int .i64 1, .int .i64 ec, .string ed]
  rw [hwb] at PB
  have FB : Fr [] w wb := by rw [← hwb]; exact (Fr.refl [] w).alloc _
  obtain ⟨bx, hbx⟩ : ∃ x, w.heap.size = x := ⟨_, rfl⟩
  rw [hbx] at PB
  have cb := PB.cell
  have hlt : b < bx := by have := h.lt; omega
  have hbo : Hid ((∀ z, bo = some z → z < bx) ∧ ∀ z, bt = some z → z < bx) := by
    obtain ⟨_, _, _, g1, g2, _, _⟩ := h
    exact ⟨fun z hz => by subst hz; have := g1.lt; omega, fun z hz => by subst hz; have := g2.lt; omega⟩
  have hR := h.fr0 FB
  obtain ⟨vo, vt, hp, ho, ht, x1, x2⟩ := h.fr0 FB
  have cs := hp.cell
  have zs := hp.free
  replace hR := Lib.hid hR; replace PB := Lib.hid PB; replace FB := Lib.hid FB; replace hp := Lib.hid hp; replace ho := Lib.hid ho; replace ht := Lib.hid ht; replace x1 := Lib.hid x1; replace x2 := Lib.hid x2
  clear h
  rcases (by omega : ea < s.m ∨ s.m < ea ∨ ea = s.m) with c | c | c
  · go_enter Try.func30, Try.ntmps30
    go_wp2_with fail
    refine (one_any 0 9 ea 0 wb).mono ?_
    rintro e w1 ⟨⟨v1, rfl, hv1⟩, f1⟩
    have F1 := FB.out.trans f1
    have V1 := hv1.le FB.out.size
    have R1 := hR.out.fr0 f1
    have PB1 := f1.pt PB.out (by simp)
    have hp1 := f1.pt hp.out (by simp)
    have ht1 := ht.out.fr f1 (by simp)
    have ho1 := ho.out.fr f1 (by simp)
    have cb1 := PB1.cell
    have cs1 := hp1.cell
    have zs1 := hp1.free
    simp only [RS.cells, hw] at cs1
    replace F1 := Lib.hid F1; replace V1 := Lib.hid V1; replace R1 := Lib.hid R1; replace PB1 := Lib.hid PB1; replace hp1 := Lib.hid hp1; replace ht1 := Lib.hid ht1; replace ho1 := Lib.hid ho1; replace f1 := Lib.hid f1
    clear hv1 cb cs zs
    go_wp2_with fail
    go_quiet (fail)
    obtain ⟨wq, hwq⟩ : ∃ x, w1.drewN nq = x := ⟨_, rfl⟩
    have FQ : Fr [] w1 wq := by rw [← hwq]; exact (Fr.refl [] w1).drewN nq
    rw [hwq]
    have Rq := R1.out.fr0 FQ
    have PBq := FQ.pt PB1.out (by simp)
    have hpq := FQ.pt hp1.out (by simp)
    have cbq := PBq.cell
    have csq := hpq.cell
    have zsq := hpq.free
    simp only [RS.cells, hw] at csq
    have F1q := F1.out.trans FQ
    replace Rq := Lib.hid Rq; replace PBq := Lib.hid PBq; replace hpq := Lib.hid hpq; replace FQ := Lib.hid FQ; replace F1q := Lib.hid F1q
    clear cb1 cs1 zs1 hwq
    have Rw := Rq.out
    have PBw := PBq.out
    have hpw := hpq.out
    have F1w := F1q.out
    have cbw := PBw.cell
    have csw := hpw.cell
    have zsw := hpw.free
    simp only [RS.cells, hw] at csw
    have R2 := (((Rw.put (s' := { s with wt := false }) (j := 7) (v := .bool false) (fun _ _ => rfl) rfl rfl).put (s' := { s with wt := false, kt := true }) (j := 10) (v := .bool true) (fun _ _ => rfl) rfl rfl).put (s' := { s with wt := false, kt := true, kh := 1 }) (j := 11) (v := .int .i64 1) (fun _ _ => rfl) rfl rfl).put (s' := { s with wt := false, kt := true, kh := 1, kn := ea }) (j := 12) (v := .int .i64 ea) (fun _ _ => rfl) rfl rfl
    have F2 : Fr [b] wq ((((wq.setCell ⟨b, 7, none⟩ (.bool false)).setCell ⟨b, 10, none⟩ (.bool true)).setCell ⟨b, 11, none⟩ (.int .i64 1)).setCell ⟨b, 12, none⟩ (.int .i64 ea)) := ((((Fr.refl _ _).setCell (by simp) _).setCell (by simp) _).setCell (by simp) _).setCell (by simp) _
    obtain ⟨wa, hwa⟩ : ∃ x, ((((wq.setCell ⟨b, 7, none⟩ (.bool false)).setCell ⟨b, 10, none⟩ (.bool true)).setCell ⟨b, 11, none⟩ (.int .i64 1)).setCell ⟨b, 12, none⟩ (.int .i64 ea)) = x := ⟨_, rfl⟩
    rw [hwa] at R2 F2
    have FA : Fr [b] w wa := (F1w.mono (by simp)).trans F2
    have PBa := F2.pt PBw (by simp; omega)
    have hpa := R2
    obtain ⟨voa, vta, hpa, _⟩ := hpa
    have cba := PBa.cell
    have csa := hpa.cell
    have zsa := hpa.free
    simp only [RS.cells] at csa
    have hne1 : bx ≠ b := by omega
    have hne2 : b ≠ bx := by omega
    replace R2 := Lib.hid R2; replace F2 := Lib.hid F2; replace FA := Lib.hid FA; replace PBa := Lib.hid PBa; replace hpa := Lib.hid hpa; replace Rw := Lib.hid Rw; replace PBw := Lib.hid PBw; replace hpw := Lib.hid hpw; replace F1w := Lib.hid F1w
    have hM : Hid (max ea s.m = s.m) := (by omega : max ea s.m = s.m)
    have R3 := R2.out.put (s' := { s with wt := false, kt := true, kh := 1, kn := s.m }) (j := 12) (v := .int .i64 (s.m)) (fun _ _ => rfl) rfl rfl
    have F3 : Fr [b] wa (wa.setCell ⟨b, 12, none⟩ (.int .i64 (s.m))) := (Fr.refl _ _).setCell (by simp) _
    obtain ⟨wz, hwz⟩ : ∃ x, wa.setCell ⟨b, 12, none⟩ (.int .i64 (s.m)) = x := ⟨_, rfl⟩
    rw [hwz] at R3 F3
    have FZ := FA.out.trans F3
    have PBz := F3.pt PBa.out (by simp; omega)
    have hpz := R3
    obtain ⟨voz, vtz, hpz, _⟩ := hpz
    replace R3 := Lib.hid R3; replace F3 := Lib.hid F3; replace FZ := Lib.hid FZ; replace PBz := Lib.hid PBz; replace hpz := Lib.hid hpz; replace hwz := Lib.hid hwz
    go_wp2_with fail
    go_region
    go_upto_region 40 with fail
    rw [hwz.out]
    have OC := Lib.hid (one_any 0 5 (s.m) 1 wz.drew.drew)
    have t1 := PBz.out.drew.drew.cell 3
    have t2 : wz.drew.drew.cell? ⟨b, 12, none⟩ = some (.int .i64 (s.m)) := hpz.out.drew.drew.cell 12
    have hszx := FZ.out.drew.size
    go_region_held3 (fun w' => w'.cell? ⟨bx, 3, none⟩ = some (.int .i64 1) ∧ w'.cell? ⟨b, 12, none⟩ = some (.int .i64 (s.m))) (first | exact ⟨t1, t2⟩ | exact KW9.out)
      ((go_at_call 50; refine OC.out.mono ?_; rintro e w9 ⟨⟨v9, rfl, hv9⟩, f9⟩; have KW9 : Hid (w9.cell? ⟨bx, 3, none⟩ = some (.int .i64 1) ∧ w9.cell? ⟨b, 12, none⟩ = some (.int .i64 (s.m))) := ⟨(f9.pt PBz.out.drew.drew (by simp)).cell 3, (f9.pt hpz.out.drew.drew (by simp)).cell 12⟩; replace hv9 := Lib.hid hv9; replace f9 := Lib.hid f9))
    have V9 := Lib.hid (hv9.out.le hszx)
    have R9 := Lib.hid (((R3.out.fr0 ((Fr.refl [] wz).drew)).rn FZ.out.drew).then (((Fr.refl [] wz.drew).drew).trans f9.out))
    go_wp2_with fail
    go_ret
    exact ⟨⟨_, rfl, by rw [hM.out]; exact V9.out⟩, by rw [hM.out]; exact R9.out⟩
  · go_enter Try.func30, Try.ntmps30
    go_wp2_with fail
    refine (one_any 0 9 ea 0 wb).mono ?_
    rintro e w1 ⟨⟨v1, rfl, hv1⟩, f1⟩
    have F1 := FB.out.trans f1
    have V1 := hv1.le FB.out.size
    have R1 := hR.out.fr0 f1
    have PB1 := f1.pt PB.out (by simp)
    have hp1 := f1.pt hp.out (by simp)
    have ht1 := ht.out.fr f1 (by simp)
    have ho1 := ho.out.fr f1 (by simp)
    have cb1 := PB1.cell
    have cs1 := hp1.cell
    have zs1 := hp1.free
    simp only [RS.cells, hw] at cs1
    replace F1 := Lib.hid F1; replace V1 := Lib.hid V1; replace R1 := Lib.hid R1; replace PB1 := Lib.hid PB1; replace hp1 := Lib.hid hp1; replace ht1 := Lib.hid ht1; replace ho1 := Lib.hid ho1; replace f1 := Lib.hid f1
    clear hv1 cb cs zs
    go_wp2_with fail
    go_quiet (fail)
    obtain ⟨wq, hwq⟩ : ∃ x, w1.drewN nq = x := ⟨_, rfl⟩
    have FQ : Fr [] w1 wq := by rw [← hwq]; exact (Fr.refl [] w1).drewN nq
    rw [hwq]
    have Rq := R1.out.fr0 FQ
    have PBq := FQ.pt PB1.out (by simp)
    have hpq := FQ.pt hp1.out (by simp)
    have cbq := PBq.cell
    have csq := hpq.cell
    have zsq := hpq.free
    simp only [RS.cells, hw] at csq
    have F1q := F1.out.trans FQ
    replace Rq := Lib.hid Rq; replace PBq := Lib.hid PBq; replace hpq := Lib.hid hpq; replace FQ := Lib.hid FQ; replace F1q := Lib.hid F1q
    clear cb1 cs1 zs1 hwq
    have Rw := Rq.out
    have PBw := PBq.out
    have hpw := hpq.out
    have F1w := F1q.out
    have cbw := PBw.cell
    have csw := hpw.cell
    have zsw := hpw.free
    simp only [RS.cells, hw] at csw
    have R2 := (((Rw.put (s' := { s with wt := false }) (j := 7) (v := .bool false) (fun _ _ => rfl) rfl rfl).put (s' := { s with wt := false, kt := true }) (j := 10) (v := .bool true) (fun _ _ => rfl) rfl rfl).put (s' := { s with wt := false, kt := true, kh := 1 }) (j := 11) (v := .int .i64 1) (fun _ _ => rfl) rfl rfl).put (s' := { s with wt := false, kt := true, kh := 1, kn := ea }) (j := 12) (v := .int .i64 ea) (fun _ _ => rfl) rfl rfl
    have F2 : Fr [b] wq ((((wq.setCell ⟨b, 7, none⟩ (.bool false)).setCell ⟨b, 10, none⟩ (.bool true)).setCell ⟨b, 11, none⟩ (.int .i64 1)).setCell ⟨b, 12, none⟩ (.int .i64 ea)) := ((((Fr.refl _ _).setCell (by simp) _).setCell (by simp) _).setCell (by simp) _).setCell (by simp) _
    obtain ⟨wa, hwa⟩ : ∃ x, ((((wq.setCell ⟨b, 7, none⟩ (.bool false)).setCell ⟨b, 10, none⟩ (.bool true)).setCell ⟨b, 11, none⟩ (.int .i64 1)).setCell ⟨b, 12, none⟩ (.int .i64 ea)) = x := ⟨_, rfl⟩
    rw [hwa] at R2 F2
    have FA : Fr [b] w wa := (F1w.mono (by simp)).trans F2
    have PBa := F2.pt PBw (by simp; omega)
    have hpa := R2
    obtain ⟨voa, vta, hpa, _⟩ := hpa
    have cba := PBa.cell
    have csa := hpa.cell
    have zsa := hpa.free
    simp only [RS.cells] at csa
    have hne1 : bx ≠ b := by omega
    have hne2 : b ≠ bx := by omega
    replace R2 := Lib.hid R2; replace F2 := Lib.hid F2; replace FA := Lib.hid FA; replace PBa := Lib.hid PBa; replace hpa := Lib.hid hpa; replace Rw := Lib.hid Rw; replace PBw := Lib.hid PBw; replace hpw := Lib.hid hpw; replace F1w := Lib.hid F1w
    have hM : Hid (max ea s.m = ea) := (by omega : max ea s.m = ea)
    have R3 := R2.out.put (s' := { s with wt := false, kt := true, kh := 1, kn := ea }) (j := 12) (v := .int .i64 (ea)) (fun _ _ => rfl) rfl rfl
    have F3 : Fr [b] wa (wa.setCell ⟨b, 12, none⟩ (.int .i64 (ea))) := (Fr.refl _ _).setCell (by simp) _
    obtain ⟨wz, hwz⟩ : ∃ x, wa.setCell ⟨b, 12, none⟩ (.int .i64 (ea)) = x := ⟨_, rfl⟩
    rw [hwz] at R3 F3
    have FZ := FA.out.trans F3
    have PBz := F3.pt PBa.out (by simp; omega)
    have hpz := R3
    obtain ⟨voz, vtz, hpz, _⟩ := hpz
    replace R3 := Lib.hid R3; replace F3 := Lib.hid F3; replace FZ := Lib.hid FZ; replace PBz := Lib.hid PBz; replace hpz := Lib.hid hpz; replace hwz := Lib.hid hwz
    go_wp2_with fail
    go_region
    go_upto_region 40 with fail
    rw [hwz.out]
    have OC := Lib.hid (one_any 0 5 (ea) 1 wz.drew.drew)
    have t1 := PBz.out.drew.drew.cell 3
    have t2 : wz.drew.drew.cell? ⟨b, 12, none⟩ = some (.int .i64 (ea)) := hpz.out.drew.drew.cell 12
    have hszx := FZ.out.drew.size
    go_region_held3 (fun w' => w'.cell? ⟨bx, 3, none⟩ = some (.int .i64 1) ∧ w'.cell? ⟨b, 12, none⟩ = some (.int .i64 (ea))) (first | exact ⟨t1, t2⟩ | exact KW9.out)
      ((go_at_call 50; refine OC.out.mono ?_; rintro e w9 ⟨⟨v9, rfl, hv9⟩, f9⟩; have KW9 : Hid (w9.cell? ⟨bx, 3, none⟩ = some (.int .i64 1) ∧ w9.cell? ⟨b, 12, none⟩ = some (.int .i64 (ea))) := ⟨(f9.pt PBz.out.drew.drew (by simp)).cell 3, (f9.pt hpz.out.drew.drew (by simp)).cell 12⟩; replace hv9 := Lib.hid hv9; replace f9 := Lib.hid f9))
    have V9 := Lib.hid (hv9.out.le hszx)
    have R9 := Lib.hid (((R3.out.fr0 ((Fr.refl [] wz).drew)).rn FZ.out.drew).then (((Fr.refl [] wz.drew).drew).trans f9.out))
    go_wp2_with fail
    go_ret
    exact ⟨⟨_, rfl, by rw [hM.out]; exact V9.out⟩, by rw [hM.out]; exact R9.out⟩
  · subst c
    go_enter Try.func30, Try.ntmps30
    go_wp2_with fail
    refine (one_any 0 9 s.m 0 wb).mono ?_
    rintro e w1 ⟨⟨v1, rfl, hv1⟩, f1⟩
    have F1 := FB.out.trans f1
    have V1 := hv1.le FB.out.size
    have R1 := hR.out.fr0 f1
    have PB1 := f1.pt PB.out (by simp)
    have hp1 := f1.pt hp.out (by simp)
    have ht1 := ht.out.fr f1 (by simp)
    have ho1 := ho.out.fr f1 (by simp)
    have cb1 := PB1.cell
    have cs1 := hp1.cell
    have zs1 := hp1.free
    simp only [RS.cells, hw] at cs1
    replace F1 := Lib.hid F1; replace V1 := Lib.hid V1; replace R1 := Lib.hid R1; replace PB1 := Lib.hid PB1; replace hp1 := Lib.hid hp1; replace ht1 := Lib.hid ht1; replace ho1 := Lib.hid ho1; replace f1 := Lib.hid f1
    clear hv1 cb cs zs
    go_wp2_with fail
    go_quiet (fail)
    obtain ⟨wq, hwq⟩ : ∃ x, w1.drewN nq = x := ⟨_, rfl⟩
    have FQ : Fr [] w1 wq := by rw [← hwq]; exact (Fr.refl [] w1).drewN nq
    rw [hwq]
    have Rq := R1.out.fr0 FQ
    have PBq := FQ.pt PB1.out (by simp)
    have hpq := FQ.pt hp1.out (by simp)
    have cbq := PBq.cell
    have csq := hpq.cell
    have zsq := hpq.free
    simp only [RS.cells, hw] at csq
    have F1q := F1.out.trans FQ
    replace Rq := Lib.hid Rq; replace PBq := Lib.hid PBq; replace hpq := Lib.hid hpq; replace FQ := Lib.hid FQ; replace F1q := Lib.hid F1q
    clear cb1 cs1 zs1 hwq
    have Rw := Rq.out
    have PBw := PBq.out
    have hpw := hpq.out
    have F1w := F1q.out
    have cbw := PBw.cell
    have csw := hpw.cell
    have zsw := hpw.free
    simp only [RS.cells, hw] at csw
    have R2 := (((Rw.put (s' := { s with wt := false }) (j := 7) (v := .bool false) (fun _ _ => rfl) rfl rfl).put (s' := { s with wt := false, kt := true }) (j := 10) (v := .bool true) (fun _ _ => rfl) rfl rfl).put (s' := { s with wt := false, kt := true, kh := 1 }) (j := 11) (v := .int .i64 1) (fun _ _ => rfl) rfl rfl).put (s' := { s with wt := false, kt := true, kh := 1, kn := s.m }) (j := 12) (v := .int .i64 s.m) (fun _ _ => rfl) rfl rfl
    have F2 : Fr [b] wq ((((wq.setCell ⟨b, 7, none⟩ (.bool false)).setCell ⟨b, 10, none⟩ (.bool true)).setCell ⟨b, 11, none⟩ (.int .i64 1)).setCell ⟨b, 12, none⟩ (.int .i64 s.m)) := ((((Fr.refl _ _).setCell (by simp) _).setCell (by simp) _).setCell (by simp) _).setCell (by simp) _
    obtain ⟨wa, hwa⟩ : ∃ x, ((((wq.setCell ⟨b, 7, none⟩ (.bool false)).setCell ⟨b, 10, none⟩ (.bool true)).setCell ⟨b, 11, none⟩ (.int .i64 1)).setCell ⟨b, 12, none⟩ (.int .i64 s.m)) = x := ⟨_, rfl⟩
    rw [hwa] at R2 F2
    have FA : Fr [b] w wa := (F1w.mono (by simp)).trans F2
    have PBa := F2.pt PBw (by simp; omega)
    have hpa := R2
    obtain ⟨voa, vta, hpa, _⟩ := hpa
    have cba := PBa.cell
    have csa := hpa.cell
    have zsa := hpa.free
    simp only [RS.cells] at csa
    have hne1 : bx ≠ b := by omega
    have hne2 : b ≠ bx := by omega
    replace R2 := Lib.hid R2; replace F2 := Lib.hid F2; replace FA := Lib.hid FA; replace PBa := Lib.hid PBa; replace hpa := Lib.hid hpa; replace Rw := Lib.hid Rw; replace PBw := Lib.hid PBw; replace hpw := Lib.hid hpw; replace F1w := Lib.hid F1w
    have hM : Hid (max s.m s.m = s.m) := (by omega : max s.m s.m = s.m)
    have R3 := R2.out.put (s' := { s with wt := false, kt := true, kh := 1, kn := s.m }) (j := 12) (v := .int .i64 (s.m)) (fun _ _ => rfl) rfl rfl
    have F3 : Fr [b] wa (wa.setCell ⟨b, 12, none⟩ (.int .i64 (s.m))) := (Fr.refl _ _).setCell (by simp) _
    obtain ⟨wz, hwz⟩ : ∃ x, wa.setCell ⟨b, 12, none⟩ (.int .i64 (s.m)) = x := ⟨_, rfl⟩
    rw [hwz] at R3 F3
    have FZ := FA.out.trans F3
    have PBz := F3.pt PBa.out (by simp; omega)
    have hpz := R3
    obtain ⟨voz, vtz, hpz, _⟩ := hpz
    replace R3 := Lib.hid R3; replace F3 := Lib.hid F3; replace FZ := Lib.hid FZ; replace PBz := Lib.hid PBz; replace hpz := Lib.hid hpz; replace hwz := Lib.hid hwz
    go_wp2_with fail
    go_region
    go_upto_region 40 with fail
    rw [hwz.out]
    have OC := Lib.hid (one_any 0 5 (s.m) 1 wz.drew.drew)
    have t1 := PBz.out.drew.drew.cell 3
    have t2 : wz.drew.drew.cell? ⟨b, 12, none⟩ = some (.int .i64 (s.m)) := hpz.out.drew.drew.cell 12
    have hszx := FZ.out.drew.size
    go_region_held3 (fun w' => w'.cell? ⟨bx, 3, none⟩ = some (.int .i64 1) ∧ w'.cell? ⟨b, 12, none⟩ = some (.int .i64 (s.m))) (first | exact ⟨t1, t2⟩ | exact KW9.out)
      ((go_at_call 50; refine OC.out.mono ?_; rintro e w9 ⟨⟨v9, rfl, hv9⟩, f9⟩; have KW9 : Hid (w9.cell? ⟨bx, 3, none⟩ = some (.int .i64 1) ∧ w9.cell? ⟨b, 12, none⟩ = some (.int .i64 (s.m))) := ⟨(f9.pt PBz.out.drew.drew (by simp)).cell 3, (f9.pt hpz.out.drew.drew (by simp)).cell 12⟩; replace hv9 := Lib.hid hv9; replace f9 := Lib.hid f9))
    have V9 := Lib.hid (hv9.out.le hszx)
    have R9 := Lib.hid (((R3.out.fr0 ((Fr.refl [] wz).drew)).rn FZ.out.drew).then (((Fr.refl [] wz.drew).drew).trans f9.out))
    go_wp2_with fail
    go_ret
    exact ⟨⟨_, rfl, by rw [hM.out]; exact V9.out⟩, by rw [hM.out]; exact R9.out⟩
theorem dn_acc5_1w (b : Nat) (s : RS) (bo bt : Option Nat) (e : Ev) (w : World) (h : RM w b s bo bt) (hk1 : e.kind = 5) (hb : e.b = 1) (hw : s.wt = true) (hwh : s.wh = 0 ∨ s.wh = 1 ∨ s.wh = 2) (hwin : s.wins e = false)  :
    Calls Try.prog 30 #[.pointer (some ⟨b, 0, none⟩), e.val] w (RbeR b bo bt w { s with wt := false, kt := true, kh := 1, kn := max e.a s.m } [⟨0, 5, max e.a s.m, 1, 0, ByteArray.empty⟩]) := by
  obtain ⟨way, kind, ea, eb, ec, ed⟩ := e
  try dsimp only at hwin hb hk1 ⊢
  subst hk1; subst hb
  dsimp only [Ev.val]
  obtain ⟨wb, hwb⟩ : ∃ x, w.alloc (.cells #[.int .i64 way, .int .i64 5, .int .i64 ea, .int .i64 1, .int .i64 ec, .string ed] TEv) = x := ⟨_, rfl⟩
  have PB := Pt.newA w TEv #[.int .i64 way, .int .i64 5, .int .i64 ea, .int .i64 1, .int .i64 ec, .string ed]
  rw [hwb] at PB
  have FB : Fr [] w wb := by rw [← hwb]; exact (Fr.refl [] w).alloc _
  obtain ⟨bx, hbx⟩ : ∃ x, w.heap.size = x := ⟨_, rfl⟩
  rw [hbx] at PB
  have cb := PB.cell
  have hlt : b < bx := by have := h.lt; omega
  have hbo : Hid ((∀ z, bo = some z → z < bx) ∧ ∀ z, bt = some z → z < bx) := by
    obtain ⟨_, _, _, g1, g2, _, _⟩ := h
    exact ⟨fun z hz => by subst hz; have := g1.lt; omega, fun z hz => by subst hz; have := g2.lt; omega⟩
  have hR := h.fr0 FB
  obtain ⟨vo, vt, hp, ho, ht, x1, x2⟩ := h.fr0 FB
  have cs := hp.cell
  have zs := hp.free
  replace hR := Lib.hid hR; replace PB := Lib.hid PB; replace FB := Lib.hid FB; replace hp := Lib.hid hp; replace ho := Lib.hid ho; replace ht := Lib.hid ht; replace x1 := Lib.hid x1; replace x2 := Lib.hid x2
  clear h
  rcases (by omega : ea < s.m ∨ s.m < ea ∨ ea = s.m) with c | c | c
  · go_enter Try.func30, Try.ntmps30
    go_wp2_with fail
    refine (one_any 0 9 ea 0 wb).mono ?_
    rintro e w1 ⟨⟨v1, rfl, hv1⟩, f1⟩
    have F1 := FB.out.trans f1
    have V1 := hv1.le FB.out.size
    have R1 := hR.out.fr0 f1
    have PB1 := f1.pt PB.out (by simp)
    have hp1 := f1.pt hp.out (by simp)
    have ht1 := ht.out.fr f1 (by simp)
    have ho1 := ho.out.fr f1 (by simp)
    have cb1 := PB1.cell
    have cs1 := hp1.cell
    have zs1 := hp1.free
    simp only [RS.cells, hw] at cs1
    replace F1 := Lib.hid F1; replace V1 := Lib.hid V1; replace R1 := Lib.hid R1; replace PB1 := Lib.hid PB1; replace hp1 := Lib.hid hp1; replace ht1 := Lib.hid ht1; replace ho1 := Lib.hid ho1; replace f1 := Lib.hid f1
    clear hv1 cb cs zs
    go_wp2_with fail
    go_quiet (fail)
    obtain ⟨wq, hwq⟩ : ∃ x, w1.drewN nq = x := ⟨_, rfl⟩
    have FQ : Fr [] w1 wq := by rw [← hwq]; exact (Fr.refl [] w1).drewN nq
    rw [hwq]
    have Rq := R1.out.fr0 FQ
    have PBq := FQ.pt PB1.out (by simp)
    have hpq := FQ.pt hp1.out (by simp)
    have cbq := PBq.cell
    have csq := hpq.cell
    have zsq := hpq.free
    simp only [RS.cells, hw] at csq
    have F1q := F1.out.trans FQ
    replace Rq := Lib.hid Rq; replace PBq := Lib.hid PBq; replace hpq := Lib.hid hpq; replace FQ := Lib.hid FQ; replace F1q := Lib.hid F1q
    clear cb1 cs1 zs1 hwq
    have RW := rwins_any b s bo bt ⟨way, 5, ea, 1, ec, ed⟩ wq Rq.out hwh (by simp)
    rw [hwin] at RW
    dsimp only [Ev.val] at RW
    replace RW := Lib.hid RW
    replace hwin := Lib.hid hwin
    go_wp2_with fail
    refine RW.out.mono ?_
    rintro e w2 ⟨rfl, f2⟩
    have Rw := Rq.out.fr0 f2
    have PBw := f2.pt PBq.out (by simp)
    have hpw := f2.pt hpq.out (by simp)
    have F1w := F1q.out.trans f2
    replace f2 := Lib.hid f2
    have cbw := PBw.cell
    have csw := hpw.cell
    have zsw := hpw.free
    simp only [RS.cells, hw] at csw
    have R2 := (((Rw.put (s' := { s with wt := false }) (j := 7) (v := .bool false) (fun _ _ => rfl) rfl rfl).put (s' := { s with wt := false, kt := true }) (j := 10) (v := .bool true) (fun _ _ => rfl) rfl rfl).put (s' := { s with wt := false, kt := true, kh := 1 }) (j := 11) (v := .int .i64 1) (fun _ _ => rfl) rfl rfl).put (s' := { s with wt := false, kt := true, kh := 1, kn := ea }) (j := 12) (v := .int .i64 ea) (fun _ _ => rfl) rfl rfl
    have F2 : Fr [b] w2 ((((w2.setCell ⟨b, 7, none⟩ (.bool false)).setCell ⟨b, 10, none⟩ (.bool true)).setCell ⟨b, 11, none⟩ (.int .i64 1)).setCell ⟨b, 12, none⟩ (.int .i64 ea)) := ((((Fr.refl _ _).setCell (by simp) _).setCell (by simp) _).setCell (by simp) _).setCell (by simp) _
    obtain ⟨wa, hwa⟩ : ∃ x, ((((w2.setCell ⟨b, 7, none⟩ (.bool false)).setCell ⟨b, 10, none⟩ (.bool true)).setCell ⟨b, 11, none⟩ (.int .i64 1)).setCell ⟨b, 12, none⟩ (.int .i64 ea)) = x := ⟨_, rfl⟩
    rw [hwa] at R2 F2
    have FA : Fr [b] w wa := (F1w.mono (by simp)).trans F2
    have PBa := F2.pt PBw (by simp; omega)
    have hpa := R2
    obtain ⟨voa, vta, hpa, _⟩ := hpa
    have cba := PBa.cell
    have csa := hpa.cell
    have zsa := hpa.free
    simp only [RS.cells] at csa
    have hne1 : bx ≠ b := by omega
    have hne2 : b ≠ bx := by omega
    replace R2 := Lib.hid R2; replace F2 := Lib.hid F2; replace FA := Lib.hid FA; replace PBa := Lib.hid PBa; replace hpa := Lib.hid hpa; replace Rw := Lib.hid Rw; replace PBw := Lib.hid PBw; replace hpw := Lib.hid hpw; replace F1w := Lib.hid F1w
    have hM : Hid (max ea s.m = s.m) := (by omega : max ea s.m = s.m)
    have R3 := R2.out.put (s' := { s with wt := false, kt := true, kh := 1, kn := s.m }) (j := 12) (v := .int .i64 (s.m)) (fun _ _ => rfl) rfl rfl
    have F3 : Fr [b] wa (wa.setCell ⟨b, 12, none⟩ (.int .i64 (s.m))) := (Fr.refl _ _).setCell (by simp) _
    obtain ⟨wz, hwz⟩ : ∃ x, wa.setCell ⟨b, 12, none⟩ (.int .i64 (s.m)) = x := ⟨_, rfl⟩
    rw [hwz] at R3 F3
    have FZ := FA.out.trans F3
    have PBz := F3.pt PBa.out (by simp; omega)
    have hpz := R3
    obtain ⟨voz, vtz, hpz, _⟩ := hpz
    replace R3 := Lib.hid R3; replace F3 := Lib.hid F3; replace FZ := Lib.hid FZ; replace PBz := Lib.hid PBz; replace hpz := Lib.hid hpz; replace hwz := Lib.hid hwz
    go_wp2_with fail
    go_region
    go_upto_region 40 with fail
    rw [hwz.out]
    have OC := Lib.hid (one_any 0 5 (s.m) 1 wz.drew.drew)
    have t1 := PBz.out.drew.drew.cell 3
    have t2 : wz.drew.drew.cell? ⟨b, 12, none⟩ = some (.int .i64 (s.m)) := hpz.out.drew.drew.cell 12
    have hszx := FZ.out.drew.size
    go_region_held3 (fun w' => w'.cell? ⟨bx, 3, none⟩ = some (.int .i64 1) ∧ w'.cell? ⟨b, 12, none⟩ = some (.int .i64 (s.m))) (first | exact ⟨t1, t2⟩ | exact KW9.out)
      ((go_at_call 50; refine OC.out.mono ?_; rintro e w9 ⟨⟨v9, rfl, hv9⟩, f9⟩; have KW9 : Hid (w9.cell? ⟨bx, 3, none⟩ = some (.int .i64 1) ∧ w9.cell? ⟨b, 12, none⟩ = some (.int .i64 (s.m))) := ⟨(f9.pt PBz.out.drew.drew (by simp)).cell 3, (f9.pt hpz.out.drew.drew (by simp)).cell 12⟩; replace hv9 := Lib.hid hv9; replace f9 := Lib.hid f9))
    have V9 := Lib.hid (hv9.out.le hszx)
    have R9 := Lib.hid (((R3.out.fr0 ((Fr.refl [] wz).drew)).rn FZ.out.drew).then (((Fr.refl [] wz.drew).drew).trans f9.out))
    go_wp2_with fail
    go_ret
    exact ⟨⟨_, rfl, by rw [hM.out]; exact V9.out⟩, by rw [hM.out]; exact R9.out⟩
  · go_enter Try.func30, Try.ntmps30
    go_wp2_with fail
    refine (one_any 0 9 ea 0 wb).mono ?_
    rintro e w1 ⟨⟨v1, rfl, hv1⟩, f1⟩
    have F1 := FB.out.trans f1
    have V1 := hv1.le FB.out.size
    have R1 := hR.out.fr0 f1
    have PB1 := f1.pt PB.out (by simp)
    have hp1 := f1.pt hp.out (by simp)
    have ht1 := ht.out.fr f1 (by simp)
    have ho1 := ho.out.fr f1 (by simp)
    have cb1 := PB1.cell
    have cs1 := hp1.cell
    have zs1 := hp1.free
    simp only [RS.cells, hw] at cs1
    replace F1 := Lib.hid F1; replace V1 := Lib.hid V1; replace R1 := Lib.hid R1; replace PB1 := Lib.hid PB1; replace hp1 := Lib.hid hp1; replace ht1 := Lib.hid ht1; replace ho1 := Lib.hid ho1; replace f1 := Lib.hid f1
    clear hv1 cb cs zs
    go_wp2_with fail
    go_quiet (fail)
    obtain ⟨wq, hwq⟩ : ∃ x, w1.drewN nq = x := ⟨_, rfl⟩
    have FQ : Fr [] w1 wq := by rw [← hwq]; exact (Fr.refl [] w1).drewN nq
    rw [hwq]
    have Rq := R1.out.fr0 FQ
    have PBq := FQ.pt PB1.out (by simp)
    have hpq := FQ.pt hp1.out (by simp)
    have cbq := PBq.cell
    have csq := hpq.cell
    have zsq := hpq.free
    simp only [RS.cells, hw] at csq
    have F1q := F1.out.trans FQ
    replace Rq := Lib.hid Rq; replace PBq := Lib.hid PBq; replace hpq := Lib.hid hpq; replace FQ := Lib.hid FQ; replace F1q := Lib.hid F1q
    clear cb1 cs1 zs1 hwq
    have RW := rwins_any b s bo bt ⟨way, 5, ea, 1, ec, ed⟩ wq Rq.out hwh (by simp)
    rw [hwin] at RW
    dsimp only [Ev.val] at RW
    replace RW := Lib.hid RW
    replace hwin := Lib.hid hwin
    go_wp2_with fail
    refine RW.out.mono ?_
    rintro e w2 ⟨rfl, f2⟩
    have Rw := Rq.out.fr0 f2
    have PBw := f2.pt PBq.out (by simp)
    have hpw := f2.pt hpq.out (by simp)
    have F1w := F1q.out.trans f2
    replace f2 := Lib.hid f2
    have cbw := PBw.cell
    have csw := hpw.cell
    have zsw := hpw.free
    simp only [RS.cells, hw] at csw
    have R2 := (((Rw.put (s' := { s with wt := false }) (j := 7) (v := .bool false) (fun _ _ => rfl) rfl rfl).put (s' := { s with wt := false, kt := true }) (j := 10) (v := .bool true) (fun _ _ => rfl) rfl rfl).put (s' := { s with wt := false, kt := true, kh := 1 }) (j := 11) (v := .int .i64 1) (fun _ _ => rfl) rfl rfl).put (s' := { s with wt := false, kt := true, kh := 1, kn := ea }) (j := 12) (v := .int .i64 ea) (fun _ _ => rfl) rfl rfl
    have F2 : Fr [b] w2 ((((w2.setCell ⟨b, 7, none⟩ (.bool false)).setCell ⟨b, 10, none⟩ (.bool true)).setCell ⟨b, 11, none⟩ (.int .i64 1)).setCell ⟨b, 12, none⟩ (.int .i64 ea)) := ((((Fr.refl _ _).setCell (by simp) _).setCell (by simp) _).setCell (by simp) _).setCell (by simp) _
    obtain ⟨wa, hwa⟩ : ∃ x, ((((w2.setCell ⟨b, 7, none⟩ (.bool false)).setCell ⟨b, 10, none⟩ (.bool true)).setCell ⟨b, 11, none⟩ (.int .i64 1)).setCell ⟨b, 12, none⟩ (.int .i64 ea)) = x := ⟨_, rfl⟩
    rw [hwa] at R2 F2
    have FA : Fr [b] w wa := (F1w.mono (by simp)).trans F2
    have PBa := F2.pt PBw (by simp; omega)
    have hpa := R2
    obtain ⟨voa, vta, hpa, _⟩ := hpa
    have cba := PBa.cell
    have csa := hpa.cell
    have zsa := hpa.free
    simp only [RS.cells] at csa
    have hne1 : bx ≠ b := by omega
    have hne2 : b ≠ bx := by omega
    replace R2 := Lib.hid R2; replace F2 := Lib.hid F2; replace FA := Lib.hid FA; replace PBa := Lib.hid PBa; replace hpa := Lib.hid hpa; replace Rw := Lib.hid Rw; replace PBw := Lib.hid PBw; replace hpw := Lib.hid hpw; replace F1w := Lib.hid F1w
    have hM : Hid (max ea s.m = ea) := (by omega : max ea s.m = ea)
    have R3 := R2.out.put (s' := { s with wt := false, kt := true, kh := 1, kn := ea }) (j := 12) (v := .int .i64 (ea)) (fun _ _ => rfl) rfl rfl
    have F3 : Fr [b] wa (wa.setCell ⟨b, 12, none⟩ (.int .i64 (ea))) := (Fr.refl _ _).setCell (by simp) _
    obtain ⟨wz, hwz⟩ : ∃ x, wa.setCell ⟨b, 12, none⟩ (.int .i64 (ea)) = x := ⟨_, rfl⟩
    rw [hwz] at R3 F3
    have FZ := FA.out.trans F3
    have PBz := F3.pt PBa.out (by simp; omega)
    have hpz := R3
    obtain ⟨voz, vtz, hpz, _⟩ := hpz
    replace R3 := Lib.hid R3; replace F3 := Lib.hid F3; replace FZ := Lib.hid FZ; replace PBz := Lib.hid PBz; replace hpz := Lib.hid hpz; replace hwz := Lib.hid hwz
    go_wp2_with fail
    go_region
    go_upto_region 40 with fail
    rw [hwz.out]
    have OC := Lib.hid (one_any 0 5 (ea) 1 wz.drew.drew)
    have t1 := PBz.out.drew.drew.cell 3
    have t2 : wz.drew.drew.cell? ⟨b, 12, none⟩ = some (.int .i64 (ea)) := hpz.out.drew.drew.cell 12
    have hszx := FZ.out.drew.size
    go_region_held3 (fun w' => w'.cell? ⟨bx, 3, none⟩ = some (.int .i64 1) ∧ w'.cell? ⟨b, 12, none⟩ = some (.int .i64 (ea))) (first | exact ⟨t1, t2⟩ | exact KW9.out)
      ((go_at_call 50; refine OC.out.mono ?_; rintro e w9 ⟨⟨v9, rfl, hv9⟩, f9⟩; have KW9 : Hid (w9.cell? ⟨bx, 3, none⟩ = some (.int .i64 1) ∧ w9.cell? ⟨b, 12, none⟩ = some (.int .i64 (ea))) := ⟨(f9.pt PBz.out.drew.drew (by simp)).cell 3, (f9.pt hpz.out.drew.drew (by simp)).cell 12⟩; replace hv9 := Lib.hid hv9; replace f9 := Lib.hid f9))
    have V9 := Lib.hid (hv9.out.le hszx)
    have R9 := Lib.hid (((R3.out.fr0 ((Fr.refl [] wz).drew)).rn FZ.out.drew).then (((Fr.refl [] wz.drew).drew).trans f9.out))
    go_wp2_with fail
    go_ret
    exact ⟨⟨_, rfl, by rw [hM.out]; exact V9.out⟩, by rw [hM.out]; exact R9.out⟩
  · subst c
    go_enter Try.func30, Try.ntmps30
    go_wp2_with fail
    refine (one_any 0 9 s.m 0 wb).mono ?_
    rintro e w1 ⟨⟨v1, rfl, hv1⟩, f1⟩
    have F1 := FB.out.trans f1
    have V1 := hv1.le FB.out.size
    have R1 := hR.out.fr0 f1
    have PB1 := f1.pt PB.out (by simp)
    have hp1 := f1.pt hp.out (by simp)
    have ht1 := ht.out.fr f1 (by simp)
    have ho1 := ho.out.fr f1 (by simp)
    have cb1 := PB1.cell
    have cs1 := hp1.cell
    have zs1 := hp1.free
    simp only [RS.cells, hw] at cs1
    replace F1 := Lib.hid F1; replace V1 := Lib.hid V1; replace R1 := Lib.hid R1; replace PB1 := Lib.hid PB1; replace hp1 := Lib.hid hp1; replace ht1 := Lib.hid ht1; replace ho1 := Lib.hid ho1; replace f1 := Lib.hid f1
    clear hv1 cb cs zs
    go_wp2_with fail
    go_quiet (fail)
    obtain ⟨wq, hwq⟩ : ∃ x, w1.drewN nq = x := ⟨_, rfl⟩
    have FQ : Fr [] w1 wq := by rw [← hwq]; exact (Fr.refl [] w1).drewN nq
    rw [hwq]
    have Rq := R1.out.fr0 FQ
    have PBq := FQ.pt PB1.out (by simp)
    have hpq := FQ.pt hp1.out (by simp)
    have cbq := PBq.cell
    have csq := hpq.cell
    have zsq := hpq.free
    simp only [RS.cells, hw] at csq
    have F1q := F1.out.trans FQ
    replace Rq := Lib.hid Rq; replace PBq := Lib.hid PBq; replace hpq := Lib.hid hpq; replace FQ := Lib.hid FQ; replace F1q := Lib.hid F1q
    clear cb1 cs1 zs1 hwq
    have RW := rwins_any b s bo bt ⟨way, 5, s.m, 1, ec, ed⟩ wq Rq.out hwh (by simp)
    rw [hwin] at RW
    dsimp only [Ev.val] at RW
    replace RW := Lib.hid RW
    replace hwin := Lib.hid hwin
    go_wp2_with fail
    refine RW.out.mono ?_
    rintro e w2 ⟨rfl, f2⟩
    have Rw := Rq.out.fr0 f2
    have PBw := f2.pt PBq.out (by simp)
    have hpw := f2.pt hpq.out (by simp)
    have F1w := F1q.out.trans f2
    replace f2 := Lib.hid f2
    have cbw := PBw.cell
    have csw := hpw.cell
    have zsw := hpw.free
    simp only [RS.cells, hw] at csw
    have R2 := (((Rw.put (s' := { s with wt := false }) (j := 7) (v := .bool false) (fun _ _ => rfl) rfl rfl).put (s' := { s with wt := false, kt := true }) (j := 10) (v := .bool true) (fun _ _ => rfl) rfl rfl).put (s' := { s with wt := false, kt := true, kh := 1 }) (j := 11) (v := .int .i64 1) (fun _ _ => rfl) rfl rfl).put (s' := { s with wt := false, kt := true, kh := 1, kn := s.m }) (j := 12) (v := .int .i64 s.m) (fun _ _ => rfl) rfl rfl
    have F2 : Fr [b] w2 ((((w2.setCell ⟨b, 7, none⟩ (.bool false)).setCell ⟨b, 10, none⟩ (.bool true)).setCell ⟨b, 11, none⟩ (.int .i64 1)).setCell ⟨b, 12, none⟩ (.int .i64 s.m)) := ((((Fr.refl _ _).setCell (by simp) _).setCell (by simp) _).setCell (by simp) _).setCell (by simp) _
    obtain ⟨wa, hwa⟩ : ∃ x, ((((w2.setCell ⟨b, 7, none⟩ (.bool false)).setCell ⟨b, 10, none⟩ (.bool true)).setCell ⟨b, 11, none⟩ (.int .i64 1)).setCell ⟨b, 12, none⟩ (.int .i64 s.m)) = x := ⟨_, rfl⟩
    rw [hwa] at R2 F2
    have FA : Fr [b] w wa := (F1w.mono (by simp)).trans F2
    have PBa := F2.pt PBw (by simp; omega)
    have hpa := R2
    obtain ⟨voa, vta, hpa, _⟩ := hpa
    have cba := PBa.cell
    have csa := hpa.cell
    have zsa := hpa.free
    simp only [RS.cells] at csa
    have hne1 : bx ≠ b := by omega
    have hne2 : b ≠ bx := by omega
    replace R2 := Lib.hid R2; replace F2 := Lib.hid F2; replace FA := Lib.hid FA; replace PBa := Lib.hid PBa; replace hpa := Lib.hid hpa; replace Rw := Lib.hid Rw; replace PBw := Lib.hid PBw; replace hpw := Lib.hid hpw; replace F1w := Lib.hid F1w
    have hM : Hid (max s.m s.m = s.m) := (by omega : max s.m s.m = s.m)
    have R3 := R2.out.put (s' := { s with wt := false, kt := true, kh := 1, kn := s.m }) (j := 12) (v := .int .i64 (s.m)) (fun _ _ => rfl) rfl rfl
    have F3 : Fr [b] wa (wa.setCell ⟨b, 12, none⟩ (.int .i64 (s.m))) := (Fr.refl _ _).setCell (by simp) _
    obtain ⟨wz, hwz⟩ : ∃ x, wa.setCell ⟨b, 12, none⟩ (.int .i64 (s.m)) = x := ⟨_, rfl⟩
    rw [hwz] at R3 F3
    have FZ := FA.out.trans F3
    have PBz := F3.pt PBa.out (by simp; omega)
    have hpz := R3
    obtain ⟨voz, vtz, hpz, _⟩ := hpz
    replace R3 := Lib.hid R3; replace F3 := Lib.hid F3; replace FZ := Lib.hid FZ; replace PBz := Lib.hid PBz; replace hpz := Lib.hid hpz; replace hwz := Lib.hid hwz
    go_wp2_with fail
    go_region
    go_upto_region 40 with fail
    rw [hwz.out]
    have OC := Lib.hid (one_any 0 5 (s.m) 1 wz.drew.drew)
    have t1 := PBz.out.drew.drew.cell 3
    have t2 : wz.drew.drew.cell? ⟨b, 12, none⟩ = some (.int .i64 (s.m)) := hpz.out.drew.drew.cell 12
    have hszx := FZ.out.drew.size
    go_region_held3 (fun w' => w'.cell? ⟨bx, 3, none⟩ = some (.int .i64 1) ∧ w'.cell? ⟨b, 12, none⟩ = some (.int .i64 (s.m))) (first | exact ⟨t1, t2⟩ | exact KW9.out)
      ((go_at_call 50; refine OC.out.mono ?_; rintro e w9 ⟨⟨v9, rfl, hv9⟩, f9⟩; have KW9 : Hid (w9.cell? ⟨bx, 3, none⟩ = some (.int .i64 1) ∧ w9.cell? ⟨b, 12, none⟩ = some (.int .i64 (s.m))) := ⟨(f9.pt PBz.out.drew.drew (by simp)).cell 3, (f9.pt hpz.out.drew.drew (by simp)).cell 12⟩; replace hv9 := Lib.hid hv9; replace f9 := Lib.hid f9))
    have V9 := Lib.hid (hv9.out.le hszx)
    have R9 := Lib.hid (((R3.out.fr0 ((Fr.refl [] wz).drew)).rn FZ.out.drew).then (((Fr.refl [] wz.drew).drew).trans f9.out))
    go_wp2_with fail
    go_ret
    exact ⟨⟨_, rfl, by rw [hM.out]; exact V9.out⟩, by rw [hM.out]; exact R9.out⟩
end Go.Proofs.Ytjgmlnkbplgloaa
