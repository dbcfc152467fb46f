import Derived.Test.YtjgmlnkbplgloaaR12
namespace Go.Proofs.Ytjgmlnkbplgloaa
open Go.RowKit
set_option linter.unusedVariables false
set_option linter.unusedSimpArgs false
set_option maxHeartbeats 8000000
set_option maxRecDepth 20000
/-- What the reference's side leaves. -/
def SimR (b : Nat) (bo bt : Option Nat) (w : World) (s' : SS) (L : List Ev) (c : Int) (x : Ending) (w' : World) : Prop := ∃ r', Sim r' s' ∧ RonR b bo bt w r' L c x w'
theorem ron_any (b : Nat) (r : RS) (s : SS) (bo bt : Option Nat) (e : Ev) (w : World) (h : RM w b r bo bt) (hs : Sim r s) (hv : SV s) (hI : SI s) :
    Calls Try.prog 17 #[.pointer (some ⟨b, 0, none⟩), e.val] w (SimR b bo bt w (onS s e).1 (onS s e).2.1 (onS s e).2.2) := by
  have AS := Lib.hid (good_any e)
  have hlt := h.lt
  have UB : Hid ((goodE e = true → e.way = 0 → ∀ w, RM w b r bo bt → Calls Try.prog 29 #[.pointer (some ⟨b, 0, none⟩), e.val] w fun x w' => ∃ r', Sim r' (userS s e).1 ∧ RonR b bo bt w r' (userS s e).2.1 (userS s e).2.2 x w') ∧
      (goodE e = true → e.way = 1 → ∀ w, RM w b r bo bt → Calls Try.prog 30 #[.pointer (some ⟨b, 0, none⟩), e.val] w fun x w' => ∃ r', Sim r' (belowS s e).1 ∧ RbeR b bo bt w r' (belowS s e).2 x w')) := by
    refine ⟨fun hg hw w h => ?_, fun hg hw w h => ?_⟩
    · obtain ⟨_, hk, _, h2, h5, _⟩ := good_spec hg
      exact rup_any b r s bo bt e w h hs hv hI hk h2 (fun h => h5 (.inl h))
    · obtain ⟨_, hk, h1, _, h5, _⟩ := good_spec hg
      exact rdown_any b r s bo bt e w h hs hv hI hk (h1 hw) h5
  unfold onS
  obtain ⟨g, hg⟩ : ∃ g, goodE e = g := ⟨_, rfl⟩
  rw [hg] at AS UB
  rw [hg]
  have hway : g = true → e.way = 0 ∨ e.way = 1 := fun h => (good_spec (hg.trans h)).1
  obtain ⟨U, hU⟩ : ∃ U, userS s e = U := ⟨_, rfl⟩
  obtain ⟨B, hB⟩ : ∃ B, belowS s e = B := ⟨_, rfl⟩
  rw [hU, hB] at UB
  rw [hU, hB]
  obtain ⟨way, kind, ea, eb, ec, ed⟩ := e
  dsimp only at hway UB
  dsimp only [Ev.val] at AS UB ⊢
  clear hg hU hB hI
  obtain ⟨wb, hwb⟩ : ∃ x, w.alloc (.cells #[.int .i64 way, .int .i64 kind, .int .i64 ea, .int .i64 eb, .int .i64 ec, .string ed] TEv) = x := ⟨_, rfl⟩
  have PB := Pt.newA w TEv #[.int .i64 way, .int .i64 kind, .int .i64 ea, .int .i64 eb, .int .i64 ec, .string ed]
  rw [hwb] at PB
  have FB : Fr [] w wb := by rw [← hwb]; exact (Fr.refl [] w).alloc _
  obtain ⟨bx, hbx⟩ : ∃ x, w.heap.size = x := ⟨_, rfl⟩
  rw [hbx] at PB
  have cb := PB.cell
  have hR := h.fr0 FB
  replace hR := Lib.hid hR; replace PB := Lib.hid PB; replace FB := Lib.hid FB; replace hs := Lib.hid hs; replace hv := Lib.hid hv
  clear h
  cases g
  · rw [if_neg (by simp)]
    clear hway UB
    go_enter Try.func17, Try.ntmps17
    go_wp2_with fail
    refine (AS.out _).mono ?_
    rintro e w1 ⟨rfl, f1⟩
    have R1 := Lib.hid (hR.out.fr0 f1)
    have F1 := Lib.hid (FB.out.trans f1)
    clear cb f1
    go_wp2
    go_ret2
    exact ⟨r, hs.out, ⟨_, rfl, .inl ⟨rfl, rfl⟩⟩, R1.out.rn (F1.out.mono (by simp))⟩
  · rw [if_pos rfl]
    rcases hway rfl with h0 | h0
    · subst h0
      rw [if_pos rfl]
      have C := Lib.hid (UB.out.1 rfl rfl)
      clear UB hway
      go_enter Try.func17, Try.ntmps17
      go_wp2_with fail
      refine (AS.out _).mono ?_
      rintro e w1 ⟨rfl, f1⟩
      have PB1 := f1.pt PB.out (by simp)
      have c1 := PB1.cell
      have R1 := Lib.hid (hR.out.fr0 f1)
      have F1 := Lib.hid (FB.out.trans f1)
      replace PB1 := Lib.hid PB1
      clear cb f1
      go_wp2_with fail
      refine (C.out _ R1.out).mono ?_
      rintro e w2 ⟨r', S2, ⟨v2, rfl, hv2⟩, RN2⟩
      have V2 := Lib.hid (hv2.le F1.out.size)
      have RN3 := Lib.hid (RN2.after (F1.out.mono (by simp)))
      replace S2 := Lib.hid S2
      clear c1 hv2 RN2
      go_wp2_with fail
      go_ret2
      exact ⟨r', S2.out, ⟨_, rfl, V2.out⟩, RN3.out⟩
    · subst h0
      rw [if_neg (by omega)]
      have C := Lib.hid (UB.out.2 rfl rfl)
      clear UB hway
      go_enter Try.func17, Try.ntmps17
      go_wp2_with fail
      refine (AS.out _).mono ?_
      rintro e w1 ⟨rfl, f1⟩
      have PB1 := f1.pt PB.out (by simp)
      have c1 := PB1.cell
      have R1 := Lib.hid (hR.out.fr0 f1)
      have F1 := Lib.hid (FB.out.trans f1)
      replace PB1 := Lib.hid PB1
      clear cb f1
      go_wp2_with fail
      refine (C.out _ R1.out).mono ?_
      rintro e w2 ⟨r', S2, ⟨v2, rfl, hv2⟩, RN2⟩
      have V2 := Lib.hid (hv2.le F1.out.size)
      have RN3 := Lib.hid (RN2.after (F1.out.mono (by simp)))
      replace S2 := Lib.hid S2
      clear c1 hv2 RN2
      go_wp2_with fail
      go_ret2
      exact ⟨r', S2.out, ⟨_, rfl, V2.out⟩, RN3.out⟩
end Go.Proofs.Ytjgmlnkbplgloaa
