import Derived.Test.YtjgmlnkbplgloaaS13
namespace Go.Proofs.Ytjgmlnkbplgloaa
open Go.RowKit
set_option linter.unusedVariables false
set_option linter.unusedSimpArgs false
set_option maxHeartbeats 8000000
set_option maxRecDepth 20000
variable {X : List Nat}
theorem inR_spec {a : Int} (h : inR a = true) : 0 ≤ a ∧ a ≤ 999999 := by simpa [inR] using h
theorem bOk_spec {b : Int} (h : bOk b = true) : b = 0 ∨ b = 1 ∨ b = 2 := by
  have : 0 ≤ b ∧ b ≤ 2 := by simpa [bOk] using h
  omega
theorem good_spec {e : Ev} (h : goodE e = true) : (e.way = 0 ∨ e.way = 1) ∧ kinds e.kind ∧ (e.way = 1 → 0 ≤ e.a ∧ e.a ≤ 999999) ∧ (e.kind = 2 → 0 ≤ e.a ∧ e.a ≤ 999999) ∧ (e.kind = 5 ∨ e.kind = 7 → e.b = 0 ∨ e.b = 1 ∨ e.b = 2) ∧ (e.kind = 7 → 0 ≤ e.a ∧ e.a ≤ 999999) ∧ (e.kind = 5 → e.b ≠ 1 → 0 ≤ e.a ∧ e.a ≤ 999999) := by
  obtain ⟨way, kind, a, b, c, d⟩ := e
  unfold goodE at h
  dsimp only at h ⊢
  by_cases h0 : way = 0
  · rw [if_pos h0] at h
    by_cases h1 : kind = 1 ∨ kind = 3 ∨ kind = 4
    · refine ⟨.inl h0, by unfold kinds; omega, by omega, by omega, by omega, by omega, by omega⟩
    · rw [if_neg h1] at h
      by_cases h2 : kind = 2
      · rw [if_pos h2] at h
        have := inR_spec h
        exact ⟨.inl h0, by unfold kinds; omega, by omega, fun _ => this, by omega, by omega, by omega⟩
      · rw [if_neg h2] at h
        by_cases h5 : kind = 5
        · rw [if_pos h5, Bool.and_eq_true, Bool.or_eq_true, decide_eq_true_eq] at h
          have := bOk_spec h.2
          refine ⟨.inl h0, by unfold kinds; omega, by omega, by omega, fun _ => this, by omega, fun _ hb => ?_⟩
          rcases h.1 with h | h
          · exact absurd h hb
          · exact inR_spec h
        · rw [if_neg h5] at h
          by_cases h7 : kind = 7
          · rw [if_pos h7, Bool.and_eq_true] at h
            have g1 := inR_spec h.1
            have g2 := bOk_spec h.2
            exact ⟨.inl h0, by unfold kinds; omega, by omega, by omega, fun _ => g2, fun _ => g1, by omega⟩
          · rw [if_neg h7] at h; cases h
  · rw [if_neg h0] at h
    by_cases h1 : way = 1
    · rw [if_pos h1] at h
      by_cases h2 : kind = 1 ∨ kind = 3 ∨ kind = 4 ∨ kind = 2
      · rw [if_pos h2] at h
        have := inR_spec h
        exact ⟨.inr h1, by unfold kinds; omega, fun _ => this, fun _ => this, by omega, by omega, by omega⟩
      · rw [if_neg h2] at h
        by_cases h5 : kind = 5 ∨ kind = 7
        · rw [if_pos h5, Bool.and_eq_true] at h
          have g1 := inR_spec h.1
          have g2 := bOk_spec h.2
          exact ⟨.inr h1, by unfold kinds; omega, fun _ => g1, by omega, fun _ => g2, fun _ => g1, fun _ _ => g1⟩
        · rw [if_neg h5] at h; cases h
    · rw [if_neg h1] at h; cases h
def onS (s : SS) (e : Ev) : SS × List Ev × Int := if goodE e = true then if e.way = 0 then userS s e else ((belowS s e).1, (belowS s e).2, 0) else (s, [], 1)
theorem on_any (b : Nat) (s : SS) (e : Ev) (w : World) (h : SM X w b s) (hI : SI s) :
    Calls Try.prog 13 #[.pointer (some ⟨b, 0, none⟩), e.val] w (OnR X b w (onS s e).1 (onS s e).2.1 (onS s e).2.2) := by
  have AS := Lib.hid (asks_any e)
  have NO := Lib.hid (fun w h => none_any (X := X) b s w h)
  rw [hI.made] at NO
  have hlt := h.lt
  have UB : Hid ((goodE e = true → e.way = 0 → ∀ w, SM X w b s → Calls Try.prog 25 #[.pointer (some ⟨b, 0, none⟩), e.val] w (OnR X b w (userS s e).1 (userS s e).2.1 (userS s e).2.2)) ∧
      (goodE e = true → e.way = 1 → ∀ w, SM X w b s → Calls Try.prog 26 #[.pointer (some ⟨b, 0, none⟩), e.val] w (BeR X b w (belowS s e).1 (belowS s e).2))) := by
    refine ⟨fun hg hw w h => ?_, fun hg hw w h => ?_⟩
    · obtain ⟨_, hk, _, h2, h5, _⟩ := good_spec hg
      exact user_any b s e w h hI hw hk h2 (fun h => h5 (.inl h))
    · obtain ⟨_, hk, h1, _, h5, _⟩ := good_spec hg
      exact below_any b s e w h hI hw hk (h1 hw) h5
  unfold onS
  obtain ⟨g, hg⟩ : ∃ g, goodE e = g := ⟨_, rfl⟩
  rw [hg] at AS UB
  rw [hg]
  have hway : g = true → e.way = 0 ∨ e.way = 1 := fun h => (good_spec (hg.trans h)).1
  obtain ⟨U, hU⟩ : ∃ U, userS s e = U := ⟨_, rfl⟩
  obtain ⟨B, hB⟩ : ∃ B, belowS s e = B := ⟨_, rfl⟩
  rw [hU, hB] at UB
  rw [hU, hB]
  obtain ⟨way, kind, ea, eb, ec, ed⟩ := e
  dsimp only at hway UB
  dsimp only [Ev.val] at AS UB ⊢
  clear hg hU hB hI
  obtain ⟨wb, hwb⟩ : ∃ x, w.alloc (.cells #[.int .i64 way, .int .i64 kind, .int .i64 ea, .int .i64 eb, .int .i64 ec, .string ed] TEv) = x := ⟨_, rfl⟩
  have PB := Pt.newA w TEv #[.int .i64 way, .int .i64 kind, .int .i64 ea, .int .i64 eb, .int .i64 ec, .string ed]
  rw [hwb] at PB
  have FB : Fr [] w wb := by rw [← hwb]; exact (Fr.refl [] w).alloc _
  obtain ⟨bx, hbx⟩ : ∃ x, w.heap.size = x := ⟨_, rfl⟩
  rw [hbx] at PB
  have cb := PB.cell
  have hS := h.fr FB
  replace hS := Lib.hid hS; replace PB := Lib.hid PB; replace FB := Lib.hid FB
  clear h
  cases g
  · rw [if_neg (by simp)]
    clear hway UB
    go_enter Try.func13, Try.ntmps13
    go_wp2_with fail
    refine (NO.out wb hS.out).mono ?_
    rintro e w1 ⟨rfl, rfl⟩
    go_wp2_with fail
    refine (AS.out _).mono ?_
    rintro e w1 ⟨rfl, f1⟩
    have S1 := hS.out.fr f1
    have F1 := FB.out.trans f1
    clear cb f1
    go_wp2
    go_ret2
    exact ⟨⟨_, rfl, .inl ⟨rfl, rfl⟩⟩, S1, F1.mono (by simp)⟩
  · rw [if_pos rfl]
    rcases hway rfl with h0 | h0
    · subst h0
      rw [if_pos rfl]
      have C := Lib.hid (UB.out.1 rfl rfl)
      clear UB hway
      go_enter Try.func13, Try.ntmps13
      go_wp2_with fail
      refine (NO.out wb hS.out).mono ?_
      rintro e w1 ⟨rfl, rfl⟩
      go_wp2_with fail
      refine (AS.out _).mono ?_
      rintro e w1 ⟨rfl, f1⟩
      have PB1 := f1.pt PB.out (by simp)
      have c1 := PB1.cell
      have S1 := hS.out.fr f1
      have F1 := FB.out.trans f1
      replace S1 := Lib.hid S1; replace F1 := Lib.hid F1; replace PB1 := Lib.hid PB1
      clear cb f1
      go_wp2_with fail
      refine (C.out _ S1.out).mono ?_
      rintro e w2 ⟨⟨v2, rfl, hv2⟩, S2, f2⟩
      have F2 := (F1.out.mono (by simp)).trans f2
      have V2 := hv2.le F1.out.size
      clear c1 f2 hv2
      go_wp2
      go_ret2
      exact ⟨⟨_, rfl, V2⟩, S2, F2⟩
    · subst h0
      rw [if_neg (by omega)]
      have C := Lib.hid (UB.out.2 rfl rfl)
      clear UB hway
      go_enter Try.func13, Try.ntmps13
      go_wp2_with fail
      refine (NO.out wb hS.out).mono ?_
      rintro e w1 ⟨rfl, rfl⟩
      go_wp2_with fail
      refine (AS.out _).mono ?_
      rintro e w1 ⟨rfl, f1⟩
      have PB1 := f1.pt PB.out (by simp)
      have c1 := PB1.cell
      have S1 := hS.out.fr f1
      have F1 := FB.out.trans f1
      replace S1 := Lib.hid S1; replace F1 := Lib.hid F1; replace PB1 := Lib.hid PB1
      clear cb f1
      go_wp2_with fail
      refine (C.out _ S1.out).mono ?_
      rintro e w2 ⟨⟨v2, rfl, hv2⟩, S2, f2⟩
      have F2 := (F1.out.mono (by simp)).trans f2
      have V2 := hv2.le F1.out.size
      clear c1 f2 hv2
      go_wp2
      go_ret2
      exact ⟨⟨_, rfl, V2⟩, S2, F2⟩
theorem major_any (b : Nat) (s : SS) (w : World) (h : SM X w b s) (hm : s.made = true) : Calls Try.prog 20 #[.pointer (some ⟨b, 0, none⟩)] w fun e w' => e = .returned (.int .i64 s.major) ∧ w = w' := by
  have NO := Lib.hid (none_any b s w h)
  rw [hm] at NO
  obtain ⟨vo, vt, hp, ho, ht⟩ := h
  have hc := hp.cell
  simp only [SS.cells] at hc
  clear hp ho ht
  go_enter Try.func20, Try.ntmps20
  go_wp2_with fail
  refine NO.out.mono ?_
  rintro e w1 ⟨rfl, rfl⟩
  go_wp2
  go_ret
  exact ⟨rfl, rfl⟩
theorem waits_any (b : Nat) (s : SS) (w : World) (h : SM X w b s) (hm : s.made = true) : Calls Try.prog 14 #[.pointer (some ⟨b, 0, none⟩)] w fun e w' => e = .returned (.bool s.wt) ∧ w = w' := by
  have NO := Lib.hid (none_any b s w h)
  rw [hm] at NO
  obtain ⟨vo, vt, hp, ho, ht⟩ := h
  have hc := hp.cell
  simp only [SS.cells] at hc
  clear hp ho ht
  go_enter Try.func14, Try.ntmps14
  go_wp2_with fail
  refine NO.out.mono ?_
  rintro e w1 ⟨rfl, rfl⟩
  go_wp2
  go_ret
  exact ⟨rfl, rfl⟩
theorem asked_any (b : Nat) (s : SS) (w : World) (h : SM X w b s) (hm : s.made = true) :
    Calls Try.prog 12 #[.pointer (some ⟨b, 0, none⟩)] w fun e w' => e = .returned (if s.kt = true then .tuple #[.int .i64 s.kh, .int .i64 s.kn, .int .i64 0] else .tuple #[.int .i64 0, .int .i64 0, .int .i64 8]) ∧ Fr [] w w' := by
  have NO := Lib.hid (none_any b s w h)
  rw [hm] at NO
  obtain ⟨vo, vt, hp, ho, ht⟩ := h
  have hc := hp.cell
  cases hk : s.kt
  · rw [if_neg (by simp)]
    simp only [SS.cells, hk] at hc
    clear hp ho ht
    go_enter Try.func12, Try.ntmps12
    go_wp2_with fail
    refine NO.out.mono ?_
    rintro e w1 ⟨rfl, rfl⟩
    go_wp2
    exact bodyPost_ret (v := .tuple #[.int .i64 0, .int .i64 0, .int .i64 8]) (by simp [results, Try.results12, go_sem]) rfl ⟨rfl, Fr.refl _ _⟩
  · rw [if_pos rfl]
    simp only [SS.cells, hk] at hc
    clear hp ho ht
    go_enter Try.func12, Try.ntmps12
    go_wp2_with fail
    refine NO.out.mono ?_
    rintro e w1 ⟨rfl, rfl⟩
    go_wp2_with fail
    go_quiet (fail)
    go_wp2
    exact bodyPost_ret (v := .tuple #[.int .i64 s.kh, .int .i64 s.kn, .int .i64 0]) (by simp [results, Try.results12, go_sem]) rfl ⟨rfl, (Fr.refl _ _).drewN _⟩
end Go.Proofs.Ytjgmlnkbplgloaa
