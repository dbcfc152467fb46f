import Derived.Test.YtjgmlnkbplgloaaR9
import Derived.Deep.RegionLaw
namespace Go.Proofs.Ytjgmlnkbplgloaa
open Go.RowKit
set_option linter.unusedVariables false
set_option linter.unusedSimpArgs false
set_option maxHeartbeats 8000000
set_option maxRecDepth 20000
/-- append whose run is known, at a step of a region that draws. -/
theorem step_append_run2 {P : Program} {ops : Array Oper} {o : Oper} {a : Act} {w w' : World} {K : Act → World → Prop} {Q : Exit → Act → World → Prop} {E : Prop}
    (hg : o.guard = none) (s x : Operand) (t : TypeId) (hop : o.op = Op.call { callee := Callee.builtin Builtin.append, args := #[s, x], argTypes := #[t, t] })
    {v xv v' : Value} (hs : a.eval s = v) (hx : a.eval x = xv) (hrun : (Builtin.append_ #[t, t] o.type #[v, xv]).run P w = .ok v' w') (hK : K (a.put o.dst v') w') :
    if Region.wanted o (yielded ops a.tmps) = true then Oper.wp P o a w K Q else E := by
  have hw : Region.wanted o (yielded ops a.tmps) = true := by simp [Region.wanted, hg]
  rw [if_pos hw]
  unfold Oper.wp
  simp [execOp, hop, resolve, invoke, builtin, hs, hx, hrun, Result.andThen]
  exact hK
theorem dn_ok1 (b : Nat) (s : RS) (bo bt : Option Nat) (e : Ev) (w : World) (h : RM w b s bo bt) (hk1 : e.kind = 1) (hw : s.wt = false) (hm : e.a = s.m) (hx : s.opn = 0) (hmm : 0 ≤ s.m ∧ s.m < 999999) (hn : s.other.length < 900000) :
    Calls Try.prog 30 #[.pointer (some ⟨b, 0, none⟩), e.val] w (RbeR b bo bt w { s with m := s.m + 1, other := s.other ++ [s.m] } [⟨0, 1, e.a, 0, 0, ByteArray.empty⟩]) := by
  obtain ⟨way, kind, ea, eb, ec, ed⟩ := e
  try dsimp only at hm hk1 ⊢
  subst hk1
  subst hm
  dsimp only [Ev.val]
  obtain ⟨wb, hwb⟩ : ∃ x, w.alloc (.cells #[.int .i64 way, .int .i64 1, .int .i64 s.m, .int .i64 eb, .int .i64 ec, .string ed] TEv) = x := ⟨_, rfl⟩
  have PB := Pt.newA w TEv #[.int .i64 way, .int .i64 1, .int .i64 s.m, .int .i64 eb, .int .i64 ec, .string ed]
  rw [hwb] at PB
  have FB : Fr [] w wb := by rw [← hwb]; exact (Fr.refl [] w).alloc _
  obtain ⟨bx, hbx⟩ : ∃ x, w.heap.size = x := ⟨_, rfl⟩
  rw [hbx] at PB
  have cb := PB.cell
  have hlt : b < bx := by have := h.lt; omega
  have hbo : Hid ((∀ z, bo = some z → z < bx) ∧ ∀ z, bt = some z → z < bx) := by
    obtain ⟨_, _, _, g1, g2, _, _⟩ := h
    exact ⟨fun z hz => by subst hz; have := g1.lt; omega, fun z hz => by subst hz; have := g2.lt; omega⟩
  have hR := h.fr0 FB
  obtain ⟨vo, vt, hp, ho, ht, x1, x2⟩ := h.fr0 FB
  have cs := hp.cell
  have zs := hp.free
  replace hR := Lib.hid hR; replace PB := Lib.hid PB; replace FB := Lib.hid FB; replace hp := Lib.hid hp; replace ho := Lib.hid ho; replace ht := Lib.hid ht; replace x1 := Lib.hid x1; replace x2 := Lib.hid x2
  clear h
  have hmb : (s.m == 999999) = false := by rw [beq_eq_false_iff_ne]; omega
  have hmb2 : (s.m != s.m) = false := by simp
  go_enter Try.func30, Try.ntmps30
  go_wp2_with fail
  refine (one_any 0 9 s.m 0 wb).mono ?_
  rintro e w1 ⟨⟨v1, rfl, hv1⟩, f1⟩
  have F1 := FB.out.trans f1
  have V1 := hv1.le FB.out.size
  have R1 := hR.out.fr0 f1
  have PB1 := f1.pt PB.out (by simp)
  have hp1 := f1.pt hp.out (by simp)
  have ht1 := ht.out.fr f1 (by simp)
  have ho1 := ho.out.fr f1 (by simp)
  have cb1 := PB1.cell
  have cs1 := hp1.cell
  have zs1 := hp1.free
  simp only [RS.cells, hw, hx] at cs1
  replace F1 := Lib.hid F1; replace V1 := Lib.hid V1; replace R1 := Lib.hid R1; replace PB1 := Lib.hid PB1; replace hp1 := Lib.hid hp1; replace ht1 := Lib.hid ht1; replace ho1 := Lib.hid ho1; replace f1 := Lib.hid f1
  clear hv1 cb cs zs
  go_wp2_with fail
  go_quiet (fail)
  obtain ⟨wq, hwq⟩ : ∃ x, w1.drewN nq = x := ⟨_, rfl⟩
  have FQ : Fr [] w1 wq := by rw [← hwq]; exact (Fr.refl [] w1).drewN nq
  rw [hwq]
  have Rq := R1.out.fr0 FQ
  have PBq := FQ.pt PB1.out (by simp)
  have hpq := FQ.pt hp1.out (by simp)
  have cbq := PBq.cell
  have csq := hpq.cell
  have zsq := hpq.free
  simp only [RS.cells, hw, hx] at csq
  have F1q := F1.out.trans FQ
  replace Rq := Lib.hid Rq; replace PBq := Lib.hid PBq; replace hpq := Lib.hid hpq; replace FQ := Lib.hid FQ; replace F1q := Lib.hid F1q
  clear cb1 cs1 zs1 hwq
  obtain ⟨voq, vtq, pq, roq, rtq, y1, y2⟩ := Rq.out
  have hszb := Rq.out.lt
  have csr := pq.cell
  have zsr := pq.free
  have csy := (pq.alloc (.cells #[.int .i64 s.m] 3)).cell
  simp only [RS.cells, hw, hx] at csr csy
  obtain ⟨v', w4, bt', hrun, hR4, hb4, hF4⟩ := (rtq.fr ((Fr.refl [] wq).drew) (by simp)).one (by omega) s.m
  have hbn : ∀ y ∈ bt.toList, y ≠ b ∧ y ∉ bo.toList := fun y hy => by
    have g1 := y2 y (by simpa using hy)
    refine ⟨g1, fun h2 => ?_⟩
    exact (y1 y (by simpa using h2)).2 (by simpa using hy)
  have P4 := hF4.pt pq.drew (fun hm => (hbn b hm).1 rfl)
  have z4 := P4.free
  have c4 := P4.cell
  simp only [RS.cells, hw, hx] at c4
  obtain ⟨o4, k4, rfl⟩ := hR4.len
  have hnb : ∀ z, bt' = some z → z ≠ b ∧ bo ≠ some z := fun z hz => by
    rcases hb4 with h | ⟨y, h, hy⟩
    · rw [h] at hz; exact ⟨y2 z hz, fun h2 => (y1 z h2).2 hz⟩
    · rw [h] at hz; cases hz
      have hyw : wq.heap.size ≤ z := hy
      refine ⟨by omega, fun h2 => ?_⟩
      subst h2
      have := roq.lt
      omega
  have ro4 := (roq.fr ((Fr.refl [] wq).drew) (by simp)).fr hF4 (fun z hz hm => (hbn z hm).2 (by simp [hz]))
  have FS : Fr [b] w4 ((w4.setCell ⟨b, 6, none⟩ (.slice o4 (s.other ++ [s.m]).length k4)).setCell ⟨b, 1, none⟩ (.int .i64 (s.m + 1))) := ((Fr.refl _ _).setCell (by simp) _).setCell (by simp) _
  have RM5 : RM ((w4.setCell ⟨b, 6, none⟩ (.slice o4 (s.other ++ [s.m]).length k4)).setCell ⟨b, 1, none⟩ (.int .i64 (s.m + 1))) b { s with m := s.m + 1, other := s.other ++ [s.m] } bo bt' :=
    ⟨voq, _, (P4.set' rfl).set' rfl, ro4.fr FS (fun z hz => by have := (y1 z hz).1; simp; exact this), hR4.fr FS (fun z hz => by have := (hnb z hz).1; simp; exact this), fun z hz => ⟨(y1 z hz).1, fun h2 => (hnb z h2).2 hz⟩, fun z hz => (hnb z hz).1⟩
  have F5 : Fr (b :: (bo.toList ++ bt.toList)) w ((w4.setCell ⟨b, 6, none⟩ (.slice o4 (s.other ++ [s.m]).length k4)).setCell ⟨b, 1, none⟩ (.int .i64 (s.m + 1))) :=
    (((F1q.out.drew).mono (by simp)).trans (hF4.mono (fun x hx => by simp at hx ⊢; simp [hx]))).trans (FS.mono (by simp))
  have RN5 : RN b bo bt w { s with m := s.m + 1, other := s.other ++ [s.m] } ((w4.setCell ⟨b, 6, none⟩ (.slice o4 (s.other ++ [s.m]).length k4)).setCell ⟨b, 1, none⟩ (.int .i64 (s.m + 1))) :=
    ⟨⟨bo, bt', RM5, fun z hz => .inl hz, fun z hz => by
      rcases hb4 with h | ⟨y, h, hy⟩
      · rw [h] at hz; exact .inl hz
      · rw [h] at hz; cases hz; right; exact Nat.le_trans F1q.out.size hy⟩, F5⟩
  obtain ⟨wz, hwz⟩ : ∃ n, wq.heap.size = n := ⟨_, rfl⟩
  rw [show wq.drew.heap.size = wz from hwz] at hrun
  have PB4 := hF4.pt PBq.out.drew (fun hm => by have := hbo.out.2 bx (by simpa using hm); omega)
  have PB5 := FS.pt PB4 (by simp; omega)
  have cb4 := PB4.cell
  have cb5 := PB5.cell
  have hne1 : bx ≠ b := by omega
  have hne2 : b ≠ bx := by omega
  obtain ⟨w5, hw5⟩ : ∃ x, (w4.setCell ⟨b, 6, none⟩ (.slice o4 (s.other ++ [s.m]).length k4)).setCell ⟨b, 1, none⟩ (.int .i64 (s.m + 1)) = x := ⟨_, rfl⟩
  rw [hw5] at RN5 PB5 cb5
  obtain ⟨ln, hln⟩ : ∃ n, (s.other ++ [s.m]).length = n := ⟨_, rfl⟩
  rw [hln] at hrun hw5
  obtain ⟨ol, kl, hvl⟩ := rtq.len
  subst hvl
  clear csq zsq
  replace hrun := Lib.hid hrun; replace RN5 := Lib.hid RN5; replace PB4 := Lib.hid PB4; replace PB5 := Lib.hid PB5; replace RM5 := Lib.hid RM5; replace F5 := Lib.hid F5; replace FS := Lib.hid FS; replace ro4 := Lib.hid ro4; replace hR4 := Lib.hid hR4; replace hb4 := Lib.hid hb4; replace hF4 := Lib.hid hF4; replace P4 := Lib.hid P4; replace pq := Lib.hid pq; replace roq := Lib.hid roq; replace rtq := Lib.hid rtq; replace y1 := Lib.hid y1; replace y2 := Lib.hid y2; replace hbn := Lib.hid hbn; replace hnb := Lib.hid hnb; replace hln := Lib.hid hln; replace hw5 := Lib.hid hw5
  go_wp2_with fail
  go_region_law (first | (refine step_append_run2 rfl _ _ _ rfl (v := .slice ol s.other.length kl) rfl (xv := .slice (some ⟨wz, 0, none⟩) 1 1) rfl hrun.out ?_))
  all_goals
    go_wp2_with fail
    try rw [hw5.out]
    refine (one_any 0 1 s.m 0 w5).mono ?_
    rintro e w9 ⟨⟨v9, rfl, hv9⟩, f9⟩
    have V9 := Lib.hid (hv9.le RN5.out.2.size)
    have R9 := Lib.hid (RN5.out.then f9)
    clear hv9 f9
    go_wp2_with fail
    go_ret
    exact ⟨⟨_, rfl, V9.out⟩, R9.out⟩
theorem dn_wins5_0 (b : Nat) (s : RS) (bo bt : Option Nat) (e : Ev) (w : World) (h : RM w b s bo bt) (hk1 : e.kind = 5) (hb : e.b = 0) (hw : s.wt = true) (hwh : s.wh = 0 ∨ s.wh = 1 ∨ s.wh = 2) (hwin : s.wins e = true) (hx : ¬ (e.a < s.r ∨ s.m < e.a)) :
    Calls Try.prog 30 #[.pointer (some ⟨b, 0, none⟩), e.val] w (RbeR b bo bt w s []) := by
  obtain ⟨way, kind, ea, eb, ec, ed⟩ := e
  try dsimp only at hx hwin hb hk1 ⊢
  subst hk1; subst hb
  dsimp only [Ev.val]
  obtain ⟨wb, hwb⟩ : ∃ x, w.alloc (.cells #[.int .i64 way, .int .i64 5, .int .i64 ea, .int .i64 0, .int .i64 ec, .string ed] TEv) = x := ⟨_, rfl⟩
  have PB := Pt.newA w TEv #[.int .i64 way, .int .i64 5, .int .i64 ea, .int .i64 0, .int .i64 ec, .string ed]
  rw [hwb] at PB
  have FB : Fr [] w wb := by rw [← hwb]; exact (Fr.refl [] w).alloc _
  obtain ⟨bx, hbx⟩ : ∃ x, w.heap.size = x := ⟨_, rfl⟩
  rw [hbx] at PB
  have cb := PB.cell
  have hlt : b < bx := by have := h.lt; omega
  have hbo : Hid ((∀ z, bo = some z → z < bx) ∧ ∀ z, bt = some z → z < bx) := by
    obtain ⟨_, _, _, g1, g2, _, _⟩ := h
    exact ⟨fun z hz => by subst hz; have := g1.lt; omega, fun z hz => by subst hz; have := g2.lt; omega⟩
  have hR := h.fr0 FB
  obtain ⟨vo, vt, hp, ho, ht, x1, x2⟩ := h.fr0 FB
  have cs := hp.cell
  have zs := hp.free
  replace hR := Lib.hid hR; replace PB := Lib.hid PB; replace FB := Lib.hid FB; replace hp := Lib.hid hp; replace ho := Lib.hid ho; replace ht := Lib.hid ht; replace x1 := Lib.hid x1; replace x2 := Lib.hid x2
  clear h
  have d1 : decide (ea < s.r) = false := decide_eq_false (by omega)
  have d2 : decide (s.m < ea) = false := decide_eq_false (by omega)
  go_enter Try.func30, Try.ntmps30
  go_wp2_with fail
  refine (one_any 0 9 ea 0 wb).mono ?_
  rintro e w1 ⟨⟨v1, rfl, hv1⟩, f1⟩
  have F1 := FB.out.trans f1
  have V1 := hv1.le FB.out.size
  have R1 := hR.out.fr0 f1
  have PB1 := f1.pt PB.out (by simp)
  have hp1 := f1.pt hp.out (by simp)
  have ht1 := ht.out.fr f1 (by simp)
  have ho1 := ho.out.fr f1 (by simp)
  have cb1 := PB1.cell
  have cs1 := hp1.cell
  have zs1 := hp1.free
  simp only [RS.cells, hw] at cs1
  replace F1 := Lib.hid F1; replace V1 := Lib.hid V1; replace R1 := Lib.hid R1; replace PB1 := Lib.hid PB1; replace hp1 := Lib.hid hp1; replace ht1 := Lib.hid ht1; replace ho1 := Lib.hid ho1; replace f1 := Lib.hid f1
  clear hv1 cb cs zs
  go_wp2_with fail
  go_quiet (fail)
  obtain ⟨wq, hwq⟩ : ∃ x, w1.drewN nq = x := ⟨_, rfl⟩
  have FQ : Fr [] w1 wq := by rw [← hwq]; exact (Fr.refl [] w1).drewN nq
  rw [hwq]
  have Rq := R1.out.fr0 FQ
  have PBq := FQ.pt PB1.out (by simp)
  have hpq := FQ.pt hp1.out (by simp)
  have cbq := PBq.cell
  have csq := hpq.cell
  have zsq := hpq.free
  simp only [RS.cells, hw] at csq
  have F1q := F1.out.trans FQ
  replace Rq := Lib.hid Rq; replace PBq := Lib.hid PBq; replace hpq := Lib.hid hpq; replace FQ := Lib.hid FQ; replace F1q := Lib.hid F1q
  clear cb1 cs1 zs1 hwq
  have RW := rwins_any b s bo bt ⟨way, 5, ea, 0, ec, ed⟩ wq Rq.out hwh (by simp)
  rw [hwin] at RW
  dsimp only [Ev.val] at RW
  replace RW := Lib.hid RW
  replace hwin := Lib.hid hwin
  go_wp2_with fail
  refine RW.out.mono ?_
  rintro e w2 ⟨rfl, f2⟩
  go_wp2_with fail
  go_ret
  exact ⟨⟨_, rfl, .inl ⟨rfl, rfl⟩⟩, (Rq.out.fr0 f2).rn ((F1q.out.trans f2).mono (by simp))⟩
theorem dn_wins5_1 (b : Nat) (s : RS) (bo bt : Option Nat) (e : Ev) (w : World) (h : RM w b s bo bt) (hk1 : e.kind = 5) (hb : e.b = 1) (hw : s.wt = true) (hwh : s.wh = 0 ∨ s.wh = 1 ∨ s.wh = 2) (hwin : s.wins e = true)  :
    Calls Try.prog 30 #[.pointer (some ⟨b, 0, none⟩), e.val] w (RbeR b bo bt w s []) := by
  obtain ⟨way, kind, ea, eb, ec, ed⟩ := e
  try dsimp only at hwin hb hk1 ⊢
  subst hk1; subst hb
  dsimp only [Ev.val]
  obtain ⟨wb, hwb⟩ : ∃ x, w.alloc (.cells #[.int .i64 way, .int .i64 5, .int .i64 ea, .int .i64 1, .int .i64 ec, .string ed] TEv) = x := ⟨_, rfl⟩
  have PB := Pt.newA w TEv #[.int .i64 way, .int .i64 5, .int .i64 ea, .int .i64 1, .int .i64 ec, .string ed]
  rw [hwb] at PB
  have FB : Fr [] w wb := by rw [← hwb]; exact (Fr.refl [] w).alloc _
  obtain ⟨bx, hbx⟩ : ∃ x, w.heap.size = x := ⟨_, rfl⟩
  rw [hbx] at PB
  have cb := PB.cell
  have hlt : b < bx := by have := h.lt; omega
  have hbo : Hid ((∀ z, bo = some z → z < bx) ∧ ∀ z, bt = some z → z < bx) := by
    obtain ⟨_, _, _, g1, g2, _, _⟩ := h
    exact ⟨fun z hz => by subst hz; have := g1.lt; omega, fun z hz => by subst hz; have := g2.lt; omega⟩
  have hR := h.fr0 FB
  obtain ⟨vo, vt, hp, ho, ht, x1, x2⟩ := h.fr0 FB
  have cs := hp.cell
  have zs := hp.free
  replace hR := Lib.hid hR; replace PB := Lib.hid PB; replace FB := Lib.hid FB; replace hp := Lib.hid hp; replace ho := Lib.hid ho; replace ht := Lib.hid ht; replace x1 := Lib.hid x1; replace x2 := Lib.hid x2
  clear h
  go_enter Try.func30, Try.ntmps30
  go_wp2_with fail
  refine (one_any 0 9 ea 0 wb).mono ?_
  rintro e w1 ⟨⟨v1, rfl, hv1⟩, f1⟩
  have F1 := FB.out.trans f1
  have V1 := hv1.le FB.out.size
  have R1 := hR.out.fr0 f1
  have PB1 := f1.pt PB.out (by simp)
  have hp1 := f1.pt hp.out (by simp)
  have ht1 := ht.out.fr f1 (by simp)
  have ho1 := ho.out.fr f1 (by simp)
  have cb1 := PB1.cell
  have cs1 := hp1.cell
  have zs1 := hp1.free
  simp only [RS.cells, hw] at cs1
  replace F1 := Lib.hid F1; replace V1 := Lib.hid V1; replace R1 := Lib.hid R1; replace PB1 := Lib.hid PB1; replace hp1 := Lib.hid hp1; replace ht1 := Lib.hid ht1; replace ho1 := Lib.hid ho1; replace f1 := Lib.hid f1
  clear hv1 cb cs zs
  go_wp2_with fail
  go_quiet (fail)
  obtain ⟨wq, hwq⟩ : ∃ x, w1.drewN nq = x := ⟨_, rfl⟩
  have FQ : Fr [] w1 wq := by rw [← hwq]; exact (Fr.refl [] w1).drewN nq
  rw [hwq]
  have Rq := R1.out.fr0 FQ
  have PBq := FQ.pt PB1.out (by simp)
  have hpq := FQ.pt hp1.out (by simp)
  have cbq := PBq.cell
  have csq := hpq.cell
  have zsq := hpq.free
  simp only [RS.cells, hw] at csq
  have F1q := F1.out.trans FQ
  replace Rq := Lib.hid Rq; replace PBq := Lib.hid PBq; replace hpq := Lib.hid hpq; replace FQ := Lib.hid FQ; replace F1q := Lib.hid F1q
  clear cb1 cs1 zs1 hwq
  have RW := rwins_any b s bo bt ⟨way, 5, ea, 1, ec, ed⟩ wq Rq.out hwh (by simp)
  rw [hwin] at RW
  dsimp only [Ev.val] at RW
  replace RW := Lib.hid RW
  replace hwin := Lib.hid hwin
  go_wp2_with fail
  refine RW.out.mono ?_
  rintro e w2 ⟨rfl, f2⟩
  go_wp2_with fail
  go_ret
  exact ⟨⟨_, rfl, .inl ⟨rfl, rfl⟩⟩, (Rq.out.fr0 f2).rn ((F1q.out.trans f2).mono (by simp))⟩
theorem dn_wins5_2 (b : Nat) (s : RS) (bo bt : Option Nat) (e : Ev) (w : World) (h : RM w b s bo bt) (hk1 : e.kind = 5) (hb : e.b = 2) (hw : s.wt = true) (hwh : s.wh = 0 ∨ s.wh = 1 ∨ s.wh = 2) (hwin : s.wins e = true)  :
    Calls Try.prog 30 #[.pointer (some ⟨b, 0, none⟩), e.val] w (RbeR b bo bt w s []) := by
  obtain ⟨way, kind, ea, eb, ec, ed⟩ := e
  try dsimp only at hwin hb hk1 ⊢
  subst hk1; subst hb
  dsimp only [Ev.val]
  obtain ⟨wb, hwb⟩ : ∃ x, w.alloc (.cells #[.int .i64 way, .int .i64 5, .int .i64 ea, .int .i64 2, .int .i64 ec, .string ed] TEv) = x := ⟨_, rfl⟩
  have PB := Pt.newA w TEv #[.int .i64 way, .int .i64 5, .int .i64 ea, .int .i64 2, .int .i64 ec, .string ed]
  rw [hwb] at PB
  have FB : Fr [] w wb := by rw [← hwb]; exact (Fr.refl [] w).alloc _
  obtain ⟨bx, hbx⟩ : ∃ x, w.heap.size = x := ⟨_, rfl⟩
  rw [hbx] at PB
  have cb := PB.cell
  have hlt : b < bx := by have := h.lt; omega
  have hbo : Hid ((∀ z, bo = some z → z < bx) ∧ ∀ z, bt = some z → z < bx) := by
    obtain ⟨_, _, _, g1, g2, _, _⟩ := h
    exact ⟨fun z hz => by subst hz; have := g1.lt; omega, fun z hz => by subst hz; have := g2.lt; omega⟩
  have hR := h.fr0 FB
  obtain ⟨vo, vt, hp, ho, ht, x1, x2⟩ := h.fr0 FB
  have cs := hp.cell
  have zs := hp.free
  replace hR := Lib.hid hR; replace PB := Lib.hid PB; replace FB := Lib.hid FB; replace hp := Lib.hid hp; replace ho := Lib.hid ho; replace ht := Lib.hid ht; replace x1 := Lib.hid x1; replace x2 := Lib.hid x2
  clear h
  go_enter Try.func30, Try.ntmps30
  go_wp2_with fail
  refine (one_any 0 9 ea 0 wb).mono ?_
  rintro e w1 ⟨⟨v1, rfl, hv1⟩, f1⟩
  have F1 := FB.out.trans f1
  have V1 := hv1.le FB.out.size
  have R1 := hR.out.fr0 f1
  have PB1 := f1.pt PB.out (by simp)
  have hp1 := f1.pt hp.out (by simp)
  have ht1 := ht.out.fr f1 (by simp)
  have ho1 := ho.out.fr f1 (by simp)
  have cb1 := PB1.cell
  have cs1 := hp1.cell
  have zs1 := hp1.free
  simp only [RS.cells, hw] at cs1
  replace F1 := Lib.hid F1; replace V1 := Lib.hid V1; replace R1 := Lib.hid R1; replace PB1 := Lib.hid PB1; replace hp1 := Lib.hid hp1; replace ht1 := Lib.hid ht1; replace ho1 := Lib.hid ho1; replace f1 := Lib.hid f1
  clear hv1 cb cs zs
  go_wp2_with fail
  go_quiet (fail)
  obtain ⟨wq, hwq⟩ : ∃ x, w1.drewN nq = x := ⟨_, rfl⟩
  have FQ : Fr [] w1 wq := by rw [← hwq]; exact (Fr.refl [] w1).drewN nq
  rw [hwq]
  have Rq := R1.out.fr0 FQ
  have PBq := FQ.pt PB1.out (by simp)
  have hpq := FQ.pt hp1.out (by simp)
  have cbq := PBq.cell
  have csq := hpq.cell
  have zsq := hpq.free
  simp only [RS.cells, hw] at csq
  have F1q := F1.out.trans FQ
  replace Rq := Lib.hid Rq; replace PBq := Lib.hid PBq; replace hpq := Lib.hid hpq; replace FQ := Lib.hid FQ; replace F1q := Lib.hid F1q
  clear cb1 cs1 zs1 hwq
  have RW := rwins_any b s bo bt ⟨way, 5, ea, 2, ec, ed⟩ wq Rq.out hwh (by simp)
  rw [hwin] at RW
  dsimp only [Ev.val] at RW
  replace RW := Lib.hid RW
  replace hwin := Lib.hid hwin
  go_wp2_with fail
  refine RW.out.mono ?_
  rintro e w2 ⟨rfl, f2⟩
  go_wp2_with fail
  go_ret
  exact ⟨⟨_, rfl, .inl ⟨rfl, rfl⟩⟩, (Rq.out.fr0 f2).rn ((F1q.out.trans f2).mono (by simp))⟩
theorem dn_acc5_0f (b : Nat) (s : RS) (bo bt : Option Nat) (e : Ev) (w : World) (h : RM w b s bo bt) (hk1 : e.kind = 5) (hb : e.b = 0) (hw : s.wt = false) (hx : ¬ (e.a < s.r ∨ s.m < e.a)) :
    Calls Try.prog 30 #[.pointer (some ⟨b, 0, none⟩), e.val] w (RbeR b bo bt w { s with wt := false, kt := true, kh := 0, kn := e.a } [⟨0, 5, e.a, 0, 0, ByteArray.empty⟩]) := by
  obtain ⟨way, kind, ea, eb, ec, ed⟩ := e
  try dsimp only at hx hb hk1 ⊢
  subst hk1; subst hb
  dsimp only [Ev.val]
  obtain ⟨wb, hwb⟩ : ∃ x, w.alloc (.cells #[.int .i64 way, .int .i64 5, .int .i64 ea, .int .i64 0, .int .i64 ec, .string ed] TEv) = x := ⟨_, rfl⟩
  have PB := Pt.newA w TEv #[.int .i64 way, .int .i64 5, .int .i64 ea, .int .i64 0, .int .i64 ec, .string ed]
  rw [hwb] at PB
  have FB : Fr [] w wb := by rw [← hwb]; exact (Fr.refl [] w).alloc _
  obtain ⟨bx, hbx⟩ : ∃ x, w.heap.size = x := ⟨_, rfl⟩
  rw [hbx] at PB
  have cb := PB.cell
  have hlt : b < bx := by have := h.lt; omega
  have hbo : Hid ((∀ z, bo = some z → z < bx) ∧ ∀ z, bt = some z → z < bx) := by
    obtain ⟨_, _, _, g1, g2, _, _⟩ := h
    exact ⟨fun z hz => by subst hz; have := g1.lt; omega, fun z hz => by subst hz; have := g2.lt; omega⟩
  have hR := h.fr0 FB
  obtain ⟨vo, vt, hp, ho, ht, x1, x2⟩ := h.fr0 FB
  have cs := hp.cell
  have zs := hp.free
  replace hR := Lib.hid hR; replace PB := Lib.hid PB; replace FB := Lib.hid FB; replace hp := Lib.hid hp; replace ho := Lib.hid ho; replace ht := Lib.hid ht; replace x1 := Lib.hid x1; replace x2 := Lib.hid x2
  clear h
  have d1 : decide (ea < s.r) = false := decide_eq_false (by omega)
  have d2 : decide (s.m < ea) = false := decide_eq_false (by omega)
  go_enter Try.func30, Try.ntmps30
  go_wp2_with fail
  refine (one_any 0 9 ea 0 wb).mono ?_
  rintro e w1 ⟨⟨v1, rfl, hv1⟩, f1⟩
  have F1 := FB.out.trans f1
  have V1 := hv1.le FB.out.size
  have R1 := hR.out.fr0 f1
  have PB1 := f1.pt PB.out (by simp)
  have hp1 := f1.pt hp.out (by simp)
  have ht1 := ht.out.fr f1 (by simp)
  have ho1 := ho.out.fr f1 (by simp)
  have cb1 := PB1.cell
  have cs1 := hp1.cell
  have zs1 := hp1.free
  simp only [RS.cells, hw] at cs1
  replace F1 := Lib.hid F1; replace V1 := Lib.hid V1; replace R1 := Lib.hid R1; replace PB1 := Lib.hid PB1; replace hp1 := Lib.hid hp1; replace ht1 := Lib.hid ht1; replace ho1 := Lib.hid ho1; replace f1 := Lib.hid f1
  clear hv1 cb cs zs
  go_wp2_with fail
  go_quiet (fail)
  obtain ⟨wq, hwq⟩ : ∃ x, w1.drewN nq = x := ⟨_, rfl⟩
  have FQ : Fr [] w1 wq := by rw [← hwq]; exact (Fr.refl [] w1).drewN nq
  rw [hwq]
  have Rq := R1.out.fr0 FQ
  have PBq := FQ.pt PB1.out (by simp)
  have hpq := FQ.pt hp1.out (by simp)
  have cbq := PBq.cell
  have csq := hpq.cell
  have zsq := hpq.free
  simp only [RS.cells, hw] at csq
  have F1q := F1.out.trans FQ
  replace Rq := Lib.hid Rq; replace PBq := Lib.hid PBq; replace hpq := Lib.hid hpq; replace FQ := Lib.hid FQ; replace F1q := Lib.hid F1q
  clear cb1 cs1 zs1 hwq
  have Rw := Rq.out
  have PBw := PBq.out
  have hpw := hpq.out
  have F1w := F1q.out
  have cbw := PBw.cell
  have csw := hpw.cell
  have zsw := hpw.free
  simp only [RS.cells, hw] at csw
  have R2 := (((Rw.put (s' := { s with wt := false }) (j := 7) (v := .bool false) (fun _ _ => rfl) rfl rfl).put (s' := { s with wt := false, kt := true }) (j := 10) (v := .bool true) (fun _ _ => rfl) rfl rfl).put (s' := { s with wt := false, kt := true, kh := 0 }) (j := 11) (v := .int .i64 0) (fun _ _ => rfl) rfl rfl).put (s' := { s with wt := false, kt := true, kh := 0, kn := ea }) (j := 12) (v := .int .i64 ea) (fun _ _ => rfl) rfl rfl
  have F2 : Fr [b] wq ((((wq.setCell ⟨b, 7, none⟩ (.bool false)).setCell ⟨b, 10, none⟩ (.bool true)).setCell ⟨b, 11, none⟩ (.int .i64 0)).setCell ⟨b, 12, none⟩ (.int .i64 ea)) := ((((Fr.refl _ _).setCell (by simp) _).setCell (by simp) _).setCell (by simp) _).setCell (by simp) _
  obtain ⟨wa, hwa⟩ : ∃ x, ((((wq.setCell ⟨b, 7, none⟩ (.bool false)).setCell ⟨b, 10, none⟩ (.bool true)).setCell ⟨b, 11, none⟩ (.int .i64 0)).setCell ⟨b, 12, none⟩ (.int .i64 ea)) = x := ⟨_, rfl⟩
  rw [hwa] at R2 F2
  have FA : Fr [b] w wa := (F1w.mono (by simp)).trans F2
  have PBa := F2.pt PBw (by simp; omega)
  have hpa := R2
  obtain ⟨voa, vta, hpa, _⟩ := hpa
  have cba := PBa.cell
  have csa := hpa.cell
  have zsa := hpa.free
  simp only [RS.cells] at csa
  have hne1 : bx ≠ b := by omega
  have hne2 : b ≠ bx := by omega
  replace R2 := Lib.hid R2; replace F2 := Lib.hid F2; replace FA := Lib.hid FA; replace PBa := Lib.hid PBa; replace hpa := Lib.hid hpa; replace Rw := Lib.hid Rw; replace PBw := Lib.hid PBw; replace hpw := Lib.hid hpw; replace F1w := Lib.hid F1w
  go_wp2_with fail
  have OC := Lib.hid (one_any 0 5 (ea) 0 wa.drew)
  have t1 := PBa.out.drew.cell 3
  have t2 : wa.drew.cell? ⟨b, 12, none⟩ = some (.int .i64 (ea)) := hpa.out.drew.cell 12
  have hszx := FA.out.size
  go_region_held3 (fun w' => w'.cell? ⟨bx, 3, none⟩ = some (.int .i64 0) ∧ w'.cell? ⟨b, 12, none⟩ = some (.int .i64 (ea))) (first | exact ⟨t1, t2⟩ | exact KW9.out)
    ((go_at_call 50; refine OC.out.mono ?_; rintro e w9 ⟨⟨v9, rfl, hv9⟩, f9⟩; have KW9 : Hid (w9.cell? ⟨bx, 3, none⟩ = some (.int .i64 0) ∧ w9.cell? ⟨b, 12, none⟩ = some (.int .i64 (ea))) := ⟨(f9.pt PBa.out.drew (by simp)).cell 3, (f9.pt hpa.out.drew (by simp)).cell 12⟩; replace hv9 := Lib.hid hv9; replace f9 := Lib.hid f9))
  have V9 := Lib.hid (hv9.out.le hszx)
  have R9 := Lib.hid ((R2.out.rn FA.out).then (((Fr.refl [] wa).drew).trans f9.out))
  go_wp2_with fail
  go_ret
  exact ⟨⟨_, rfl, V9.out⟩, R9.out⟩
theorem dn_acc5_0w (b : Nat) (s : RS) (bo bt : Option Nat) (e : Ev) (w : World) (h : RM w b s bo bt) (hk1 : e.kind = 5) (hb : e.b = 0) (hw : s.wt = true) (hwh : s.wh = 0 ∨ s.wh = 1 ∨ s.wh = 2) (hwin : s.wins e = false) (hx : ¬ (e.a < s.r ∨ s.m < e.a)) :
    Calls Try.prog 30 #[.pointer (some ⟨b, 0, none⟩), e.val] w (RbeR b bo bt w { s with wt := false, kt := true, kh := 0, kn := e.a } [⟨0, 5, e.a, 0, 0, ByteArray.empty⟩]) := by
  obtain ⟨way, kind, ea, eb, ec, ed⟩ := e
  try dsimp only at hx hwin hb hk1 ⊢
  subst hk1; subst hb
  dsimp only [Ev.val]
  obtain ⟨wb, hwb⟩ : ∃ x, w.alloc (.cells #[.int .i64 way, .int .i64 5, .int .i64 ea, .int .i64 0, .int .i64 ec, .string ed] TEv) = x := ⟨_, rfl⟩
  have PB := Pt.newA w TEv #[.int .i64 way, .int .i64 5, .int .i64 ea, .int .i64 0, .int .i64 ec, .string ed]
  rw [hwb] at PB
  have FB : Fr [] w wb := by rw [← hwb]; exact (Fr.refl [] w).alloc _
  obtain ⟨bx, hbx⟩ : ∃ x, w.heap.size = x := ⟨_, rfl⟩
  rw [hbx] at PB
  have cb := PB.cell
  have hlt : b < bx := by have := h.lt; omega
  have hbo : Hid ((∀ z, bo = some z → z < bx) ∧ ∀ z, bt = some z → z < bx) := by
    obtain ⟨_, _, _, g1, g2, _, _⟩ := h
    exact ⟨fun z hz => by subst hz; have := g1.lt; omega, fun z hz => by subst hz; have := g2.lt; omega⟩
  have hR := h.fr0 FB
  obtain ⟨vo, vt, hp, ho, ht, x1, x2⟩ := h.fr0 FB
  have cs := hp.cell
  have zs := hp.free
  replace hR := Lib.hid hR; replace PB := Lib.hid PB; replace FB := Lib.hid FB; replace hp := Lib.hid hp; replace ho := Lib.hid ho; replace ht := Lib.hid ht; replace x1 := Lib.hid x1; replace x2 := Lib.hid x2
  clear h
  have d1 : decide (ea < s.r) = false := decide_eq_false (by omega)
  have d2 : decide (s.m < ea) = false := decide_eq_false (by omega)
  go_enter Try.func30, Try.ntmps30
  go_wp2_with fail
  refine (one_any 0 9 ea 0 wb).mono ?_
  rintro e w1 ⟨⟨v1, rfl, hv1⟩, f1⟩
  have F1 := FB.out.trans f1
  have V1 := hv1.le FB.out.size
  have R1 := hR.out.fr0 f1
  have PB1 := f1.pt PB.out (by simp)
  have hp1 := f1.pt hp.out (by simp)
  have ht1 := ht.out.fr f1 (by simp)
  have ho1 := ho.out.fr f1 (by simp)
  have cb1 := PB1.cell
  have cs1 := hp1.cell
  have zs1 := hp1.free
  simp only [RS.cells, hw] at cs1
  replace F1 := Lib.hid F1; replace V1 := Lib.hid V1; replace R1 := Lib.hid R1; replace PB1 := Lib.hid PB1; replace hp1 := Lib.hid hp1; replace ht1 := Lib.hid ht1; replace ho1 := Lib.hid ho1; replace f1 := Lib.hid f1
  clear hv1 cb cs zs
  go_wp2_with fail
  go_quiet (fail)
  obtain ⟨wq, hwq⟩ : ∃ x, w1.drewN nq = x := ⟨_, rfl⟩
  have FQ : Fr [] w1 wq := by rw [← hwq]; exact (Fr.refl [] w1).drewN nq
  rw [hwq]
  have Rq := R1.out.fr0 FQ
  have PBq := FQ.pt PB1.out (by simp)
  have hpq := FQ.pt hp1.out (by simp)
  have cbq := PBq.cell
  have csq := hpq.cell
  have zsq := hpq.free
  simp only [RS.cells, hw] at csq
  have F1q := F1.out.trans FQ
  replace Rq := Lib.hid Rq; replace PBq := Lib.hid PBq; replace hpq := Lib.hid hpq; replace FQ := Lib.hid FQ; replace F1q := Lib.hid F1q
  clear cb1 cs1 zs1 hwq
  have RW := rwins_any b s bo bt ⟨way, 5, ea, 0, ec, ed⟩ wq Rq.out hwh (by simp)
  rw [hwin] at RW
  dsimp only [Ev.val] at RW
  replace RW := Lib.hid RW
  replace hwin := Lib.hid hwin
  go_wp2_with fail
  refine RW.out.mono ?_
  rintro e w2 ⟨rfl, f2⟩
  have Rw := Rq.out.fr0 f2
  have PBw := f2.pt PBq.out (by simp)
  have hpw := f2.pt hpq.out (by simp)
  have F1w := F1q.out.trans f2
  replace f2 := Lib.hid f2
  have cbw := PBw.cell
  have csw := hpw.cell
  have zsw := hpw.free
  simp only [RS.cells, hw] at csw
  have R2 := (((Rw.put (s' := { s with wt := false }) (j := 7) (v := .bool false) (fun _ _ => rfl) rfl rfl).put (s' := { s with wt := false, kt := true }) (j := 10) (v := .bool true) (fun _ _ => rfl) rfl rfl).put (s' := { s with wt := false, kt := true, kh := 0 }) (j := 11) (v := .int .i64 0) (fun _ _ => rfl) rfl rfl).put (s' := { s with wt := false, kt := true, kh := 0, kn := ea }) (j := 12) (v := .int .i64 ea) (fun _ _ => rfl) rfl rfl
  have F2 : Fr [b] w2 ((((w2.setCell ⟨b, 7, none⟩ (.bool false)).setCell ⟨b, 10, none⟩ (.bool true)).setCell ⟨b, 11, none⟩ (.int .i64 0)).setCell ⟨b, 12, none⟩ (.int .i64 ea)) := ((((Fr.refl _ _).setCell (by simp) _).setCell (by simp) _).setCell (by simp) _).setCell (by simp) _
  obtain ⟨wa, hwa⟩ : ∃ x, ((((w2.setCell ⟨b, 7, none⟩ (.bool false)).setCell ⟨b, 10, none⟩ (.bool true)).setCell ⟨b, 11, none⟩ (.int .i64 0)).setCell ⟨b, 12, none⟩ (.int .i64 ea)) = x := ⟨_, rfl⟩
  rw [hwa] at R2 F2
  have FA : Fr [b] w wa := (F1w.mono (by simp)).trans F2
  have PBa := F2.pt PBw (by simp; omega)
  have hpa := R2
  obtain ⟨voa, vta, hpa, _⟩ := hpa
  have cba := PBa.cell
  have csa := hpa.cell
  have zsa := hpa.free
  simp only [RS.cells] at csa
  have hne1 : bx ≠ b := by omega
  have hne2 : b ≠ bx := by omega
  replace R2 := Lib.hid R2; replace F2 := Lib.hid F2; replace FA := Lib.hid FA; replace PBa := Lib.hid PBa; replace hpa := Lib.hid hpa; replace Rw := Lib.hid Rw; replace PBw := Lib.hid PBw; replace hpw := Lib.hid hpw; replace F1w := Lib.hid F1w
  go_wp2_with fail
  have OC := Lib.hid (one_any 0 5 (ea) 0 wa.drew)
  have t1 := PBa.out.drew.cell 3
  have t2 : wa.drew.cell? ⟨b, 12, none⟩ = some (.int .i64 (ea)) := hpa.out.drew.cell 12
  have hszx := FA.out.size
  go_region_held3 (fun w' => w'.cell? ⟨bx, 3, none⟩ = some (.int .i64 0) ∧ w'.cell? ⟨b, 12, none⟩ = some (.int .i64 (ea))) (first | exact ⟨t1, t2⟩ | exact KW9.out)
    ((go_at_call 50; refine OC.out.mono ?_; rintro e w9 ⟨⟨v9, rfl, hv9⟩, f9⟩; have KW9 : Hid (w9.cell? ⟨bx, 3, none⟩ = some (.int .i64 0) ∧ w9.cell? ⟨b, 12, none⟩ = some (.int .i64 (ea))) := ⟨(f9.pt PBa.out.drew (by simp)).cell 3, (f9.pt hpa.out.drew (by simp)).cell 12⟩; replace hv9 := Lib.hid hv9; replace f9 := Lib.hid f9))
  have V9 := Lib.hid (hv9.out.le hszx)
  have R9 := Lib.hid ((R2.out.rn FA.out).then (((Fr.refl [] wa).drew).trans f9.out))
  go_wp2_with fail
  go_ret
  exact ⟨⟨_, rfl, V9.out⟩, R9.out⟩
theorem dn_acc5_2f (b : Nat) (s : RS) (bo bt : Option Nat) (e : Ev) (w : World) (h : RM w b s bo bt) (hk1 : e.kind = 5) (hb : e.b = 2) (hw : s.wt = false)  :
    Calls Try.prog 30 #[.pointer (some ⟨b, 0, none⟩), e.val] w (RbeR b bo bt w { s with wt := false, kt := true, kh := 2, kn := e.a } [⟨0, 5, e.a, 2, 0, ByteArray.empty⟩]) := by
  obtain ⟨way, kind, ea, eb, ec, ed⟩ := e
  try dsimp only at hb hk1 ⊢
  subst hk1; subst hb
  dsimp only [Ev.val]
  obtain ⟨wb, hwb⟩ : ∃ x, w.alloc (.cells #[.int .i64 way, .int .i64 5, .int .i64 ea, .int .i64 2, .int .i64 ec, .string ed] TEv) = x := ⟨_, rfl⟩
  have PB := Pt.newA w TEv #[.int .i64 way, .int .i64 5, .int .i64 ea, .int .i64 2, .int .i64 ec, .string ed]
  rw [hwb] at PB
  have FB : Fr [] w wb := by rw [← hwb]; exact (Fr.refl [] w).alloc _
  obtain ⟨bx, hbx⟩ : ∃ x, w.heap.size = x := ⟨_, rfl⟩
  rw [hbx] at PB
  have cb := PB.cell
  have hlt : b < bx := by have := h.lt; omega
  have hbo : Hid ((∀ z, bo = some z → z < bx) ∧ ∀ z, bt = some z → z < bx) := by
    obtain ⟨_, _, _, g1, g2, _, _⟩ := h
    exact ⟨fun z hz => by subst hz; have := g1.lt; omega, fun z hz => by subst hz; have := g2.lt; omega⟩
  have hR := h.fr0 FB
  obtain ⟨vo, vt, hp, ho, ht, x1, x2⟩ := h.fr0 FB
  have cs := hp.cell
  have zs := hp.free
  replace hR := Lib.hid hR; replace PB := Lib.hid PB; replace FB := Lib.hid FB; replace hp := Lib.hid hp; replace ho := Lib.hid ho; replace ht := Lib.hid ht; replace x1 := Lib.hid x1; replace x2 := Lib.hid x2
  clear h
  go_enter Try.func30, Try.ntmps30
  go_wp2_with fail
  refine (one_any 0 9 ea 0 wb).mono ?_
  rintro e w1 ⟨⟨v1, rfl, hv1⟩, f1⟩
  have F1 := FB.out.trans f1
  have V1 := hv1.le FB.out.size
  have R1 := hR.out.fr0 f1
  have PB1 := f1.pt PB.out (by simp)
  have hp1 := f1.pt hp.out (by simp)
  have ht1 := ht.out.fr f1 (by simp)
  have ho1 := ho.out.fr f1 (by simp)
  have cb1 := PB1.cell
  have cs1 := hp1.cell
  have zs1 := hp1.free
  simp only [RS.cells, hw] at cs1
  replace F1 := Lib.hid F1; replace V1 := Lib.hid V1; replace R1 := Lib.hid R1; replace PB1 := Lib.hid PB1; replace hp1 := Lib.hid hp1; replace ht1 := Lib.hid ht1; replace ho1 := Lib.hid ho1; replace f1 := Lib.hid f1
  clear hv1 cb cs zs
  go_wp2_with fail
  go_quiet (fail)
  obtain ⟨wq, hwq⟩ : ∃ x, w1.drewN nq = x := ⟨_, rfl⟩
  have FQ : Fr [] w1 wq := by rw [← hwq]; exact (Fr.refl [] w1).drewN nq
  rw [hwq]
  have Rq := R1.out.fr0 FQ
  have PBq := FQ.pt PB1.out (by simp)
  have hpq := FQ.pt hp1.out (by simp)
  have cbq := PBq.cell
  have csq := hpq.cell
  have zsq := hpq.free
  simp only [RS.cells, hw] at csq
  have F1q := F1.out.trans FQ
  replace Rq := Lib.hid Rq; replace PBq := Lib.hid PBq; replace hpq := Lib.hid hpq; replace FQ := Lib.hid FQ; replace F1q := Lib.hid F1q
  clear cb1 cs1 zs1 hwq
  have Rw := Rq.out
  have PBw := PBq.out
  have hpw := hpq.out
  have F1w := F1q.out
  have cbw := PBw.cell
  have csw := hpw.cell
  have zsw := hpw.free
  simp only [RS.cells, hw] at csw
  have R2 := (((Rw.put (s' := { s with wt := false }) (j := 7) (v := .bool false) (fun _ _ => rfl) rfl rfl).put (s' := { s with wt := false, kt := true }) (j := 10) (v := .bool true) (fun _ _ => rfl) rfl rfl).put (s' := { s with wt := false, kt := true, kh := 2 }) (j := 11) (v := .int .i64 2) (fun _ _ => rfl) rfl rfl).put (s' := { s with wt := false, kt := true, kh := 2, kn := ea }) (j := 12) (v := .int .i64 ea) (fun _ _ => rfl) rfl rfl
  have F2 : Fr [b] wq ((((wq.setCell ⟨b, 7, none⟩ (.bool false)).setCell ⟨b, 10, none⟩ (.bool true)).setCell ⟨b, 11, none⟩ (.int .i64 2)).setCell ⟨b, 12, none⟩ (.int .i64 ea)) := ((((Fr.refl _ _).setCell (by simp) _).setCell (by simp) _).setCell (by simp) _).setCell (by simp) _
  obtain ⟨wa, hwa⟩ : ∃ x, ((((wq.setCell ⟨b, 7, none⟩ (.bool false)).setCell ⟨b, 10, none⟩ (.bool true)).setCell ⟨b, 11, none⟩ (.int .i64 2)).setCell ⟨b, 12, none⟩ (.int .i64 ea)) = x := ⟨_, rfl⟩
  rw [hwa] at R2 F2
  have FA : Fr [b] w wa := (F1w.mono (by simp)).trans F2
  have PBa := F2.pt PBw (by simp; omega)
  have hpa := R2
  obtain ⟨voa, vta, hpa, _⟩ := hpa
  have cba := PBa.cell
  have csa := hpa.cell
  have zsa := hpa.free
  simp only [RS.cells] at csa
  have hne1 : bx ≠ b := by omega
  have hne2 : b ≠ bx := by omega
  replace R2 := Lib.hid R2; replace F2 := Lib.hid F2; replace FA := Lib.hid FA; replace PBa := Lib.hid PBa; replace hpa := Lib.hid hpa; replace Rw := Lib.hid Rw; replace PBw := Lib.hid PBw; replace hpw := Lib.hid hpw; replace F1w := Lib.hid F1w
  go_wp2_with fail
  have OC := Lib.hid (one_any 0 5 (ea) 2 wa.drew)
  have t1 := PBa.out.drew.cell 3
  have t2 : wa.drew.cell? ⟨b, 12, none⟩ = some (.int .i64 (ea)) := hpa.out.drew.cell 12
  have hszx := FA.out.size
  go_region_held3 (fun w' => w'.cell? ⟨bx, 3, none⟩ = some (.int .i64 2) ∧ w'.cell? ⟨b, 12, none⟩ = some (.int .i64 (ea))) (first | exact ⟨t1, t2⟩ | exact KW9.out)
    ((go_at_call 50; refine OC.out.mono ?_; rintro e w9 ⟨⟨v9, rfl, hv9⟩, f9⟩; have KW9 : Hid (w9.cell? ⟨bx, 3, none⟩ = some (.int .i64 2) ∧ w9.cell? ⟨b, 12, none⟩ = some (.int .i64 (ea))) := ⟨(f9.pt PBa.out.drew (by simp)).cell 3, (f9.pt hpa.out.drew (by simp)).cell 12⟩; replace hv9 := Lib.hid hv9; replace f9 := Lib.hid f9))
  have V9 := Lib.hid (hv9.out.le hszx)
  have R9 := Lib.hid ((R2.out.rn FA.out).then (((Fr.refl [] wa).drew).trans f9.out))
  go_wp2_with fail
  go_ret
  exact ⟨⟨_, rfl, V9.out⟩, R9.out⟩
theorem dn_acc5_2w (b : Nat) (s : RS) (bo bt : Option Nat) (e : Ev) (w : World) (h : RM w b s bo bt) (hk1 : e.kind = 5) (hb : e.b = 2) (hw : s.wt = true) (hwh : s.wh = 0 ∨ s.wh = 1 ∨ s.wh = 2) (hwin : s.wins e = false)  :
    Calls Try.prog 30 #[.pointer (some ⟨b, 0, none⟩), e.val] w (RbeR b bo bt w { s with wt := false, kt := true, kh := 2, kn := e.a } [⟨0, 5, e.a, 2, 0, ByteArray.empty⟩]) := by
  obtain ⟨way, kind, ea, eb, ec, ed⟩ := e
  try dsimp only at hwin hb hk1 ⊢
  subst hk1; subst hb
  dsimp only [Ev.val]
  obtain ⟨wb, hwb⟩ : ∃ x, w.alloc (.cells #[.int .i64 way, .int .i64 5, .int .i64 ea, .int .i64 2, .int .i64 ec, .string ed] TEv) = x := ⟨_, rfl⟩
  have PB := Pt.newA w TEv #[.int .i64 way, .int .i64 5, .int .i64 ea, .int .i64 2, .int .i64 ec, .string ed]
  rw [hwb] at PB
  have FB : Fr [] w wb := by rw [← hwb]; exact (Fr.refl [] w).alloc _
  obtain ⟨bx, hbx⟩ : ∃ x, w.heap.size = x := ⟨_, rfl⟩
  rw [hbx] at PB
  have cb := PB.cell
  have hlt : b < bx := by have := h.lt; omega
  have hbo : Hid ((∀ z, bo = some z → z < bx) ∧ ∀ z, bt = some z → z < bx) := by
    obtain ⟨_, _, _, g1, g2, _, _⟩ := h
    exact ⟨fun z hz => by subst hz; have := g1.lt; omega, fun z hz => by subst hz; have := g2.lt; omega⟩
  have hR := h.fr0 FB
  obtain ⟨vo, vt, hp, ho, ht, x1, x2⟩ := h.fr0 FB
  have cs := hp.cell
  have zs := hp.free
  replace hR := Lib.hid hR; replace PB := Lib.hid PB; replace FB := Lib.hid FB; replace hp := Lib.hid hp; replace ho := Lib.hid ho; replace ht := Lib.hid ht; replace x1 := Lib.hid x1; replace x2 := Lib.hid x2
  clear h
  go_enter Try.func30, Try.ntmps30
  go_wp2_with fail
  refine (one_any 0 9 ea 0 wb).mono ?_
  rintro e w1 ⟨⟨v1, rfl, hv1⟩, f1⟩
  have F1 := FB.out.trans f1
  have V1 := hv1.le FB.out.size
  have R1 := hR.out.fr0 f1
  have PB1 := f1.pt PB.out (by simp)
  have hp1 := f1.pt hp.out (by simp)
  have ht1 := ht.out.fr f1 (by simp)
  have ho1 := ho.out.fr f1 (by simp)
  have cb1 := PB1.cell
  have cs1 := hp1.cell
  have zs1 := hp1.free
  simp only [RS.cells, hw] at cs1
  replace F1 := Lib.hid F1; replace V1 := Lib.hid V1; replace R1 := Lib.hid R1; replace PB1 := Lib.hid PB1; replace hp1 := Lib.hid hp1; replace ht1 := Lib.hid ht1; replace ho1 := Lib.hid ho1; replace f1 := Lib.hid f1
  clear hv1 cb cs zs
  go_wp2_with fail
  go_quiet (fail)
  obtain ⟨wq, hwq⟩ : ∃ x, w1.drewN nq = x := ⟨_, rfl⟩
  have FQ : Fr [] w1 wq := by rw [← hwq]; exact (Fr.refl [] w1).drewN nq
  rw [hwq]
  have Rq := R1.out.fr0 FQ
  have PBq := FQ.pt PB1.out (by simp)
  have hpq := FQ.pt hp1.out (by simp)
  have cbq := PBq.cell
  have csq := hpq.cell
  have zsq := hpq.free
  simp only [RS.cells, hw] at csq
  have F1q := F1.out.trans FQ
  replace Rq := Lib.hid Rq; replace PBq := Lib.hid PBq; replace hpq := Lib.hid hpq; replace FQ := Lib.hid FQ; replace F1q := Lib.hid F1q
  clear cb1 cs1 zs1 hwq
  have RW := rwins_any b s bo bt ⟨way, 5, ea, 2, ec, ed⟩ wq Rq.out hwh (by simp)
  rw [hwin] at RW
  dsimp only [Ev.val] at RW
  replace RW := Lib.hid RW
  replace hwin := Lib.hid hwin
  go_wp2_with fail
  refine RW.out.mono ?_
  rintro e w2 ⟨rfl, f2⟩
  have Rw := Rq.out.fr0 f2
  have PBw := f2.pt PBq.out (by simp)
  have hpw := f2.pt hpq.out (by simp)
  have F1w := F1q.out.trans f2
  replace f2 := Lib.hid f2
  have cbw := PBw.cell
  have csw := hpw.cell
  have zsw := hpw.free
  simp only [RS.cells, hw] at csw
  have R2 := (((Rw.put (s' := { s with wt := false }) (j := 7) (v := .bool false) (fun _ _ => rfl) rfl rfl).put (s' := { s with wt := false, kt := true }) (j := 10) (v := .bool true) (fun _ _ => rfl) rfl rfl).put (s' := { s with wt := false, kt := true, kh := 2 }) (j := 11) (v := .int .i64 2) (fun _ _ => rfl) rfl rfl).put (s' := { s with wt := false, kt := true, kh := 2, kn := ea }) (j := 12) (v := .int .i64 ea) (fun _ _ => rfl) rfl rfl
  have F2 : Fr [b] w2 ((((w2.setCell ⟨b, 7, none⟩ (.bool false)).setCell ⟨b, 10, none⟩ (.bool true)).setCell ⟨b, 11, none⟩ (.int .i64 2)).setCell ⟨b, 12, none⟩ (.int .i64 ea)) := ((((Fr.refl _ _).setCell (by simp) _).setCell (by simp) _).setCell (by simp) _).setCell (by simp) _
  obtain ⟨wa, hwa⟩ : ∃ x, ((((w2.setCell ⟨b, 7, none⟩ (.bool false)).setCell ⟨b, 10, none⟩ (.bool true)).setCell ⟨b, 11, none⟩ (.int .i64 2)).setCell ⟨b, 12, none⟩ (.int .i64 ea)) = x := ⟨_, rfl⟩
  rw [hwa] at R2 F2
  have FA : Fr [b] w wa := (F1w.mono (by simp)).trans F2
  have PBa := F2.pt PBw (by simp; omega)
  have hpa := R2
  obtain ⟨voa, vta, hpa, _⟩ := hpa
  have cba := PBa.cell
  have csa := hpa.cell
  have zsa := hpa.free
  simp only [RS.cells] at csa
  have hne1 : bx ≠ b := by omega
  have hne2 : b ≠ bx := by omega
  replace R2 := Lib.hid R2; replace F2 := Lib.hid F2; replace FA := Lib.hid FA; replace PBa := Lib.hid PBa; replace hpa := Lib.hid hpa; replace Rw := Lib.hid Rw; replace PBw := Lib.hid PBw; replace hpw := Lib.hid hpw; replace F1w := Lib.hid F1w
  go_wp2_with fail
  have OC := Lib.hid (one_any 0 5 (ea) 2 wa.drew)
  have t1 := PBa.out.drew.cell 3
  have t2 : wa.drew.cell? ⟨b, 12, none⟩ = some (.int .i64 (ea)) := hpa.out.drew.cell 12
  have hszx := FA.out.size
  go_region_held3 (fun w' => w'.cell? ⟨bx, 3, none⟩ = some (.int .i64 2) ∧ w'.cell? ⟨b, 12, none⟩ = some (.int .i64 (ea))) (first | exact ⟨t1, t2⟩ | exact KW9.out)
    ((go_at_call 50; refine OC.out.mono ?_; rintro e w9 ⟨⟨v9, rfl, hv9⟩, f9⟩; have KW9 : Hid (w9.cell? ⟨bx, 3, none⟩ = some (.int .i64 2) ∧ w9.cell? ⟨b, 12, none⟩ = some (.int .i64 (ea))) := ⟨(f9.pt PBa.out.drew (by simp)).cell 3, (f9.pt hpa.out.drew (by simp)).cell 12⟩; replace hv9 := Lib.hid hv9; replace f9 := Lib.hid f9))
  have V9 := Lib.hid (hv9.out.le hszx)
  have R9 := Lib.hid ((R2.out.rn FA.out).then (((Fr.refl [] wa).drew).trans f9.out))
  go_wp2_with fail
  go_ret
  exact ⟨⟨_, rfl, V9.out⟩, R9.out⟩
end Go.Proofs.Ytjgmlnkbplgloaa
