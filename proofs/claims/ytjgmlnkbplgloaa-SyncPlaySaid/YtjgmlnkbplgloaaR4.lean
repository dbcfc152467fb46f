import Derived.Test.YtjgmlnkbplgloaaR3
namespace Go.Proofs.Ytjgmlnkbplgloaa
open Go.RowKit
set_option linter.unusedVariables false
set_option linter.unusedSimpArgs false
set_option maxHeartbeats 8000000
set_option maxRecDepth 20000
def RS.wins (s : RS) (e : Ev) : Bool := if s.wh ≠ e.b then decide (rankI e.b < rankI s.wh) else if e.b = 0 ∧ s.wn ≠ e.a then decide (s.wn < e.a) else s.first
theorem rwins_any (b : Nat) (s : RS) (bo bt : Option Nat) (e : Ev) (w : World) (h : RM w b s bo bt) (h1 : s.wh = 0 ∨ s.wh = 1 ∨ s.wh = 2) (h2 : e.b = 0 ∨ e.b = 1 ∨ e.b = 2) :
    Calls Try.prog 52 #[.pointer (some ⟨b, 0, none⟩), e.val] w fun r w' => r = .returned (.bool (s.wins e)) ∧ Fr [] w w' := by
  obtain ⟨vo, vt, hp, ho, ht, _, _⟩ := h
  obtain ⟨fs, mm, ma, mr, mj, ow, th, wt, wh, wn, kt, kh, kn⟩ := s
  obtain ⟨way, kind, a, eb, c, d⟩ := e
  dsimp only at h1 h2
  obtain ⟨wb, hwb⟩ : ∃ x, w.alloc (.cells #[.int .i64 way, .int .i64 kind, .int .i64 a, .int .i64 eb, .int .i64 c, .string d] TEv) = x := ⟨_, rfl⟩
  have PB := Pt.newA w TEv #[.int .i64 way, .int .i64 kind, .int .i64 a, .int .i64 eb, .int .i64 c, .string d]
  rw [hwb] at PB
  have FB : Fr [] w wb := by rw [← hwb]; exact (Fr.refl [] w).alloc _
  obtain ⟨bx, hbx⟩ : ∃ x, w.heap.size = x := ⟨_, rfl⟩
  rw [hbx] at PB
  have hpb := FB.pt hp (by simp)
  have hc := hpb.cell
  have cb := PB.cell
  simp only [RS.cells] at hc
  have hS : ∀ w', Fr [] wb w' → (w'.cell? ⟨b, 8, none⟩ = some (.int .i64 wh) ∧ w'.cell? ⟨bx, 3, none⟩ = some (.int .i64 eb)) := fun w' hf => ⟨(hf.pt hpb (by simp)).cell 8, (hf.pt PB (by simp)).cell 3⟩
  have R1 := Lib.hid (fun w => rank_any wh w h1)
  have R2 := Lib.hid (fun w => rank_any eb w h2)
  replace hS := Lib.hid hS; replace hpb := Lib.hid hpb; replace PB := Lib.hid PB; replace FB := Lib.hid FB
  clear hp ho ht
  unfold RS.wins
  dsimp only [Ev.val]
  by_cases hne : wh = eb
  · subst hne
    rw [if_neg (by simp)]
    have hnb : (wh != wh) = false := by simp
    clear R1 R2
    rcases h1 with rfl | rfl | rfl
    · by_cases hna : wn = a
      · subst hna
        have hnw : (wn != wn) = false := by simp
        rw [if_neg (by simp)]
        go_enter Try.func52, Try.ntmps52
        go_wp2_with fail
        go_quiet (fail)
        go_wp2_with fail
        go_quiet (fail)
        go_wp2_with fail
        go_ret
        exact ⟨rfl, by first | exact (FB.out.drewN _) | exact ((FB.out.drewN _).drewN _) | exact (((FB.out.drewN _).drewN _).drewN _)⟩
      · have hna' : (wn != a) = true := by simpa using hna
        rw [if_pos ⟨rfl, hna⟩]
        go_enter Try.func52, Try.ntmps52
        go_wp2_with fail
        go_quiet (fail)
        go_wp2_with fail
        go_quiet (fail)
        go_wp2_with fail
        go_quiet (fail)
        go_wp2_with fail
        go_ret
        exact ⟨rfl, by first | exact (FB.out.drewN _) | exact ((FB.out.drewN _).drewN _) | exact (((FB.out.drewN _).drewN _).drewN _)⟩
    · rw [if_neg (by simp)]
      go_enter Try.func52, Try.ntmps52
      go_wp2_with fail
      go_quiet (fail)
      go_wp2_with fail
      go_quiet (fail)
      go_wp2_with fail
      go_ret
      exact ⟨rfl, by first | exact (FB.out.drewN _) | exact ((FB.out.drewN _).drewN _) | exact (((FB.out.drewN _).drewN _).drewN _)⟩
    · rw [if_neg (by simp)]
      go_enter Try.func52, Try.ntmps52
      go_wp2_with fail
      go_quiet (fail)
      go_wp2_with fail
      go_quiet (fail)
      go_wp2_with fail
      go_ret
      exact ⟨rfl, by first | exact (FB.out.drewN _) | exact ((FB.out.drewN _).drewN _) | exact (((FB.out.drewN _).drewN _).drewN _)⟩
  · rw [if_pos hne]
    have hnb : (wh != eb) = true := by simpa using hne
    obtain ⟨q1, hq1⟩ : ∃ q, rankI wh = q := ⟨_, rfl⟩
    obtain ⟨q2, hq2⟩ : ∃ q, rankI eb = q := ⟨_, rfl⟩
    rw [hq1] at R1
    rw [hq2] at R2
    rw [hq1, hq2]
    clear hq1 hq2 h1 h2
    go_enter Try.func52, Try.ntmps52
    go_wp2_with fail
    go_quiet (fail)
    go_wp2_with fail
    have FQ : Hid (Fr [] wb (wb.drewN nq).drew) := ((Fr.refl [] wb).drewN nq).drew
    go_region_held3 (fun w' => w'.cell? ⟨b, 8, none⟩ = some (.int .i64 wh) ∧ w'.cell? ⟨bx, 3, none⟩ = some (.int .i64 eb))
      (first | exact hS.out _ FQ.out | exact hS.out _ fA.out | exact hS.out _ fB.out)
      (first | (go_at_call 59; refine (R1.out _).mono ?_; rintro e wA ⟨rfl, gA⟩; have fA := (show Fr [] wb wA from by first | exact FQ.out.trans gA | exact fB.out.trans gA); replace fA := Lib.hid fA; clear gA) | (go_at_call 59; refine (R2.out _).mono ?_; rintro e wB ⟨rfl, gB⟩; have fB := (show Fr [] wb wB from by first | exact FQ.out.trans gB | exact fA.out.trans gB); replace fB := Lib.hid fB; clear gB))
    all_goals
      go_wp2_with fail
      go_ret
      exact ⟨rfl, by first | exact FB.out.trans fB.out | exact FB.out.trans fA.out⟩
end Go.Proofs.Ytjgmlnkbplgloaa
