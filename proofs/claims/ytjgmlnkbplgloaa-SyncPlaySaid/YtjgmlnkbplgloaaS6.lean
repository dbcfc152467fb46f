import Derived.Test.YtjgmlnkbplgloaaS4
import Derived.BigRegion
namespace Go.Proofs.Ytjgmlnkbplgloaa
open Go.RowKit
set_option linter.unusedVariables false
set_option linter.unusedSimpArgs false
set_option maxHeartbeats 4000000
set_option maxRecDepth 20000
variable {X : List Nat}
theorem SM.put {w : World} {b : Nat} {s s' : SS} {j : Nat} {v : Value} (h : SM X w b s) (e : ∀ vo vt, (s.cells vo vt).set j v = s'.cells vo vt) (ho : s'.own = s.own) (ht : s'.theirs = s.theirs) : SM X (w.setCell ⟨b, j, none⟩ v) b s' := by
  obtain ⟨vo, vt, hp, h1, h2⟩ := h
  have FS : Fr [b] w (w.setCell ⟨b, j, none⟩ v) := (Fr.refl _ _).setCell (by simp) _
  exact ⟨vo, vt, hp.set' (e vo vt), by rw [ho]; exact h1.fr FS (by simp), by rw [ht]; exact h2.fr FS (by simp)⟩
theorem SM.lt {w : World} {b : Nat} {s : SS} (h : SM X w b s) : b < w.heap.size := by
  obtain ⟨vo, vt, hp, _⟩ := h
  exact hp.lt
theorem SM.drew {w : World} {b : Nat} {s : SS} (h : SM X w b s) : SM X w.drew b s := h.fr ((Fr.refl [] w).drew)
/-- The request that is waited for is set. -/
theorem SM.wait {w : World} {b : Nat} {s : SS} (h : SM X w b s) (t : Bool) (x y : Int) :
    SM X (((w.setCell ⟨b, 8, none⟩ (.bool t)).setCell ⟨b, 9, none⟩ (.int .i64 x)).setCell ⟨b, 10, none⟩ (.int .i64 y)) b { s with wt := t, wh := x, wn := y } :=
  ((h.put (s' := { s with wt := t }) (fun _ _ => rfl) rfl rfl).put (s' := { s with wt := t, wh := x }) (fun _ _ => rfl) rfl rfl).put (s' := { s with wt := t, wh := x, wn := y }) (fun _ _ => rfl) rfl rfl
theorem SM.owe {w : World} {b : Nat} {s : SS} (h : SM X w b s) (t : Bool) (x y : Int) :
    SM X (((w.setCell ⟨b, 11, none⟩ (.bool t)).setCell ⟨b, 12, none⟩ (.int .i64 x)).setCell ⟨b, 13, none⟩ (.int .i64 y)) b { s with kt := t, kh := x, kn := y } :=
  ((h.put (s' := { s with kt := t }) (fun _ _ => rfl) rfl rfl).put (s' := { s with kt := t, kh := x }) (fun _ _ => rfl) rfl rfl).put (s' := { s with kt := t, kh := x, kn := y }) (fun _ _ => rfl) rfl rfl
theorem Fr.three {w w0 : World} {b : Nat} (h : Fr [b] w0 w) (i j k : Nat) (x y z : Value) : Fr [b] w0 (((w.setCell ⟨b, i, none⟩ x).setCell ⟨b, j, none⟩ y).setCell ⟨b, k, none⟩ z) :=
  ((h.setCell (by simp) _).setCell (by simp) _).setCell (by simp) _
def SS.settled (s : SS) : SS := SS.pruned { s with a := s.m, r := s.m, major := 0 }
theorem settle_any (b : Nat) (s : SS) (w : World) (h : SM X w b s) (hn : s.own.length < 1000000 ∧ s.theirs.length < 1000000) :
    Calls Try.prog 42 #[.pointer (some ⟨b, 0, none⟩)] w fun e w' => e = .returned (.tuple #[]) ∧ SM X w' b s.settled ∧ Fr [b] w w' := by
  have hS := h
  obtain ⟨vo, vt, hp, ho, ht⟩ := h
  obtain ⟨wa, hwa⟩ : ∃ x, (((w.setCell ⟨b, 3, none⟩ (.int .i64 s.m)).setCell ⟨b, 4, none⟩ (.int .i64 s.m)).setCell ⟨b, 5, none⟩ (.int .i64 0)).drew = x := ⟨_, rfl⟩
  have SA : SM X wa b { s with a := s.m, r := s.m, major := 0 } := by
    rw [← hwa]
    exact (((hS.put (s' := { s with a := s.m }) (fun _ _ => rfl) rfl rfl).put (s' := { s with a := s.m, r := s.m }) (fun _ _ => rfl) rfl rfl).put (s' := { s with a := s.m, r := s.m, major := 0 }) (fun _ _ => rfl) rfl rfl).drew
  have FA : Fr [b] w wa := by rw [← hwa]; exact ((((Fr.refl _ _).setCell (by simp) _).setCell (by simp) _).setCell (by simp) _).drew
  have C := Lib.hid (prune_any b _ wa SA hn)
  have hc := hp.cell
  have hz := hp.free
  simp only [SS.cells] at hc
  replace hp := Lib.hid hp; replace FA := Lib.hid FA; replace SA := Lib.hid SA; replace ho := Lib.hid ho; replace ht := Lib.hid ht; replace hS := Lib.hid hS; replace hwa := Lib.hid hwa
  go_enter Try.func42, Try.ntmps42
  go_wp2_with fail
  go_region
  go_wp2_with fail
  rw [hwa.out]
  refine C.out.mono ?_
  rintro e w2 ⟨rfl, S2, f2⟩
  have FF := FA.out.trans f2
  go_wp2_with fail
  go_end0
  exact ⟨rfl, S2, FF⟩
def SS.reset (s : SS) (how n : Int) : SS := { s with m := n, major := 0, a := if how = 0 then min s.a n else n, r := if how = 0 then min s.r n else n }
def SS.anew (s : SS) (how n : Int) : SS := { (s.reset how n).pruned with wt := false, wh := 0, wn := 0, kt := false, kh := 0, kn := 0 }
theorem anew_any (b : Nat) (s : SS) (how n : Int) (w : World) (h : SM X w b s) (hn : s.own.length < 1000000 ∧ s.theirs.length < 1000000) :
    Calls Try.prog 44 #[.pointer (some ⟨b, 0, none⟩), .int .i64 how, .int .i64 n] w fun e w' => e = .returned (.tuple #[]) ∧ SM X w' b (s.anew how n) ∧ Fr [b] w w' := by
  have hS := h
  obtain ⟨vo, vt, hp, ho, ht⟩ := h
  have hc := hp.cell
  have hz := hp.free
  simp only [SS.cells] at hc
  by_cases hh : how = 0
  · have hr : s.reset how n = { s with m := n, major := 0, a := min s.a n, r := min s.r n } := by simp [SS.reset, hh]
    subst hh
    obtain ⟨wa, hwa⟩ : ∃ x, ((((w.setCell ⟨b, 2, none⟩ (.int .i64 n)).setCell ⟨b, 5, none⟩ (.int .i64 0)).setCell ⟨b, 3, none⟩ (.int .i64 (min s.a n))).setCell ⟨b, 4, none⟩ (.int .i64 (min s.r n))) = x := ⟨_, rfl⟩
    have SA : SM X wa b (s.reset 0 n) := by
      rw [hr, ← hwa]
      exact ((((hS.put (s' := { s with m := n }) (fun _ _ => rfl) rfl rfl).put (s' := { s with m := n, major := 0 }) (fun _ _ => rfl) rfl rfl).put (s' := { s with m := n, major := 0, a := min s.a n }) (fun _ _ => rfl) rfl rfl).put (s' := { s with m := n, major := 0, a := min s.a n, r := min s.r n }) (fun _ _ => rfl) rfl rfl)
    have FA : Fr [b] w wa := by rw [← hwa]; exact (((((Fr.refl _ _).setCell (by simp) _).setCell (by simp) _).setCell (by simp) _).setCell (by simp) _)
    have C := Lib.hid (prune_any b _ wa SA (by rw [hr]; exact hn))
    have hA : (s.a ≤ n ∧ min s.a n = s.a) ∨ (n < s.a ∧ min s.a n = n) := by omega
    have hR : (s.r ≤ n ∧ min s.r n = s.r) ∨ (n < s.r ∧ min s.r n = n) := by omega
    replace hp := Lib.hid hp; replace FA := Lib.hid FA; replace SA := Lib.hid SA; replace ho := Lib.hid ho; replace ht := Lib.hid ht; replace hS := Lib.hid hS
    clear hr
    rcases hA with ⟨hA1, hA2⟩ | ⟨hA1, hA2⟩
    all_goals
      rcases hR with ⟨hR1, hR2⟩ | ⟨hR1, hR2⟩
      all_goals
        rw [hA2, hR2] at hwa
        replace hwa := Lib.hid hwa
        clear hA2 hR2
        go_enter Try.func44, Try.ntmps44
        go_wp2_with fail
        rw [hwa.out]
        refine C.out.mono ?_
        rintro e w2 ⟨rfl, S2, f2⟩
        have FF := FA.out.trans f2
        have S3 := (S2.wait false 0 0).owe false 0 0
        have F3 := (FF.three 8 9 10 (.bool false) (.int .i64 0) (.int .i64 0)).three 11 12 13 (.bool false) (.int .i64 0) (.int .i64 0)
        obtain ⟨vo2, vt2, hp2, ho2, ht2⟩ := S2
        have c2 := hp2.cell
        have z2 := hp2.free
        simp only [SS.cells] at c2
        replace hp2 := Lib.hid hp2; replace ho2 := Lib.hid ho2; replace ht2 := Lib.hid ht2; replace S3 := Lib.hid S3; replace F3 := Lib.hid F3
        clear hc hz FF f2
        go_wp2_with fail
        go_end0
        exact ⟨rfl, S3.out, F3.out⟩
  · have hr : s.reset how n = { s with m := n, major := 0, a := n, r := n } := by simp [SS.reset, hh]
    obtain ⟨wa, hwa⟩ : ∃ x, ((((w.setCell ⟨b, 2, none⟩ (.int .i64 n)).setCell ⟨b, 5, none⟩ (.int .i64 0)).setCell ⟨b, 3, none⟩ (.int .i64 n)).setCell ⟨b, 4, none⟩ (.int .i64 n)) = x := ⟨_, rfl⟩
    have SA : SM X wa b (s.reset how n) := by
      rw [hr, ← hwa]
      exact ((((hS.put (s' := { s with m := n }) (fun _ _ => rfl) rfl rfl).put (s' := { s with m := n, major := 0 }) (fun _ _ => rfl) rfl rfl).put (s' := { s with m := n, major := 0, a := n }) (fun _ _ => rfl) rfl rfl).put (s' := { s with m := n, major := 0, a := n, r := n }) (fun _ _ => rfl) rfl rfl)
    have FA : Fr [b] w wa := by rw [← hwa]; exact (((((Fr.refl _ _).setCell (by simp) _).setCell (by simp) _).setCell (by simp) _).setCell (by simp) _)
    have C := Lib.hid (prune_any b _ wa SA (by rw [hr]; exact hn))
    replace hp := Lib.hid hp; replace FA := Lib.hid FA; replace SA := Lib.hid SA; replace ho := Lib.hid ho; replace ht := Lib.hid ht; replace hS := Lib.hid hS; replace hwa := Lib.hid hwa
    clear hr
    go_enter Try.func44, Try.ntmps44
    go_wp2_with fail
    rw [hwa.out]
    refine C.out.mono ?_
    rintro e w2 ⟨rfl, S2, f2⟩
    have FF := FA.out.trans f2
    have S3 := (S2.wait false 0 0).owe false 0 0
    have F3 := (FF.three 8 9 10 (.bool false) (.int .i64 0) (.int .i64 0)).three 11 12 13 (.bool false) (.int .i64 0) (.int .i64 0)
    obtain ⟨vo2, vt2, hp2, ho2, ht2⟩ := S2
    have c2 := hp2.cell
    have z2 := hp2.free
    simp only [SS.cells] at c2
    replace hp2 := Lib.hid hp2; replace ho2 := Lib.hid ho2; replace ht2 := Lib.hid ht2; replace S3 := Lib.hid S3; replace F3 := Lib.hid F3
    clear hc hz FF f2
    go_wp2_with fail
    go_end0
    exact ⟨rfl, S3.out, F3.out⟩
def rankI (h : Int) : Int := if h = 0 then 0 else if h = 1 then 2 else 1
def SS.wins (s : SS) (e : Ev) : Bool := if s.wh ≠ e.b then decide (rankI e.b < rankI s.wh) else if e.b = 0 ∧ s.wn ≠ e.a then decide (s.wn < e.a) else s.first
theorem wins_any (b : Nat) (s : SS) (e : Ev) (w : World) (h : SM X w b s) (h1 : s.wh = 0 ∨ s.wh = 1 ∨ s.wh = 2) (h2 : e.b = 0 ∨ e.b = 1 ∨ e.b = 2) :
    Calls Try.prog 57 #[.pointer (some ⟨b, 0, none⟩), e.val] w fun r w' => r = .returned (.bool (s.wins e)) ∧ Fr [] w w' := by
  obtain ⟨vo, vt, hp, ho, ht⟩ := h
  have hc := hp.cell
  simp only [SS.cells] at hc
  obtain ⟨mk, fs, mm, ma, mr, mj, ow, th, wt, wh, wn, kt, kh, kn⟩ := s
  obtain ⟨way, kind, a, eb, c, d⟩ := e
  dsimp only at h1 h2 hc
  have hlt := hp.lt
  clear hp ho ht
  unfold SS.wins
  dsimp only [Ev.val]
  have h03 : (0 : Int) < 3 := by omega
  have h13 : (1 : Int) < 3 := by omega
  have h23 : (2 : Int) < 3 := by omega
  rcases h1 with rfl | rfl | rfl
  all_goals
    rcases h2 with rfl | rfl | rfl
    all_goals
      by_cases hna : wn = a
      all_goals
        try subst hna
        try have hna' : (wn != a) = true := by simpa using hna
        go_enter Try.func57, Try.ntmps57
        go_wp2_with fail
        go_quiet (fail)
        go_wp2_with fail
        go_quiet (fail)
        go_wp2_with fail
        try (go_quiet (fail); go_wp2_with fail)
        go_ret
        refine ⟨?_, ?_⟩
        · first | rfl | simp [rankI] | simp [rankI, hna]
        · first
            | exact ((((Fr.refl _ _).alloc _).alloc _).drewN _)
            | exact (((((Fr.refl _ _).alloc _).alloc _).drewN _).drewN _)
            | exact ((((((Fr.refl _ _).alloc _).alloc _).drewN _).drewN _).drewN _)
end Go.Proofs.Ytjgmlnkbplgloaa
