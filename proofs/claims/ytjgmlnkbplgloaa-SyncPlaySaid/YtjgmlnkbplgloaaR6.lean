import Derived.Test.YtjgmlnkbplgloaaR5
namespace Go.Proofs.Ytjgmlnkbplgloaa
open Go.RowKit
set_option linter.unusedVariables false
set_option linter.unusedSimpArgs false
set_option maxHeartbeats 8000000
set_option maxRecDepth 20000
def RS.reset (s : RS) (how n : Int) : RS := { s with m := n, a := if how = 0 then min s.a n else n, r := if how = 0 then min s.r n else n, opn := 0, wt := false }
theorem ranew_any (b : Nat) (s : RS) (bo bt : Option Nat) (how n : Int) (w : World) (h : RM w b s bo bt) (hn : s.own.length < 900000 ∧ s.other.length < 900000) :
    Calls Try.prog 51 #[.pointer (some ⟨b, 0, none⟩), .int .i64 how, .int .i64 n] w fun e w' => e = .returned (.tuple #[]) ∧ (∃ bo' bt', RM w' b (s.reset how n).tidied bo' bt' ∧ (∀ z, bo' = some z → w.heap.size ≤ z) ∧ ∀ z, bt' = some z → w.heap.size ≤ z) ∧ Fr [b] w w' := by
  have hcases : (how = 0 ∧ s.a ≤ n ∧ s.r ≤ n) ∨ (how = 0 ∧ s.a ≤ n ∧ n < s.r) ∨ (how = 0 ∧ n < s.a ∧ s.r ≤ n) ∨ (how = 0 ∧ n < s.a ∧ n < s.r) ∨ how ≠ 0 := by omega
  have key : ∀ A R, (s.reset how n = { s with m := n, a := A, r := R, opn := 0, wt := false }) → ∃ wa, wa = (((((w.setCell ⟨b, 1, none⟩ (.int .i64 n)).setCell ⟨b, 2, none⟩ (.int .i64 A)).setCell ⟨b, 3, none⟩ (.int .i64 R)).setCell ⟨b, 4, none⟩ (.int .i64 0)).setCell ⟨b, 7, none⟩ (.bool false)) ∧ RM wa b (s.reset how n) bo bt ∧ Fr [b] w wa ∧ wa.heap.size = w.heap.size := fun A R e => ⟨_, rfl, by
      rw [e]
      exact (((((h.put (s' := { s with m := n }) (fun _ _ => rfl) rfl rfl).put (s' := { s with m := n, a := A }) (fun _ _ => rfl) rfl rfl).put (s' := { s with m := n, a := A, r := R }) (fun _ _ => rfl) rfl rfl).put (s' := { s with m := n, a := A, r := R, opn := 0 }) (fun _ _ => rfl) rfl rfl).put (s' := { s with m := n, a := A, r := R, opn := 0, wt := false }) (fun _ _ => rfl) rfl rfl),
    (((((Fr.refl _ _).setCell (by simp) _).setCell (by simp) _).setCell (by simp) _).setCell (by simp) _).setCell (by simp) _, by simp [World.setCell]⟩
  have hlen : (s.reset how n).own.length < 900000 ∧ (s.reset how n).other.length < 900000 := hn
  have T : ∀ wa, RM wa b (s.reset how n) bo bt → Fr [b] w wa → wa.heap.size = w.heap.size → Calls Try.prog 49 #[.pointer (some ⟨b, 0, none⟩)] wa fun e w' => e = .returned (.tuple #[]) ∧ (∃ bo' bt', RM w' b (s.reset how n).tidied bo' bt' ∧ (∀ z, bo' = some z → w.heap.size ≤ z) ∧ ∀ z, bt' = some z → w.heap.size ≤ z) ∧ Fr [b] w w' := fun wa hR hF hs =>
    (tidy_any b _ bo bt wa hR hlen).mono fun e w' ⟨h1, ⟨bo', bt', h2, h3, h4⟩, h5⟩ => ⟨h1, ⟨bo', bt', h2, fun z hz => by rw [← hs]; exact h3 z hz, fun z hz => by rw [← hs]; exact h4 z hz⟩, hF.trans h5⟩
  obtain ⟨vo, vt, hp, ho, ht, hx1, hx2⟩ := h
  have hc := hp.cell
  have hz := hp.free
  simp only [RS.cells] at hc
  replace hp := Lib.hid hp; replace ho := Lib.hid ho; replace ht := Lib.hid ht; replace hx1 := Lib.hid hx1; replace hx2 := Lib.hid hx2
  replace T := Lib.hid T
  rcases hcases with ⟨rfl, g1, g2⟩ | ⟨rfl, g1, g2⟩ | ⟨rfl, g1, g2⟩ | ⟨rfl, g1, g2⟩ | g0
  · obtain ⟨wa, hwa, hR, hF, hs⟩ := key s.a s.r (by simp [RS.reset]; omega)
    have C := Lib.hid (T.out wa hR hF hs)
    replace hwa := Lib.hid hwa.symm
    clear key hR hF hs T
    go_enter Try.func51, Try.ntmps51
    go_wp2_with fail
    rw [hwa.out]
    refine C.out.mono ?_
    rintro e w2 ⟨rfl, S2, f2⟩
    go_wp2_with fail
    go_end0
    exact ⟨rfl, S2, f2⟩
  · obtain ⟨wa, hwa, hR, hF, hs⟩ := key s.a n (by simp [RS.reset]; omega)
    have C := Lib.hid (T.out wa hR hF hs)
    replace hwa := Lib.hid hwa.symm
    clear key hR hF hs T
    go_enter Try.func51, Try.ntmps51
    go_wp2_with fail
    rw [hwa.out]
    refine C.out.mono ?_
    rintro e w2 ⟨rfl, S2, f2⟩
    go_wp2_with fail
    go_end0
    exact ⟨rfl, S2, f2⟩
  · obtain ⟨wa, hwa, hR, hF, hs⟩ := key n s.r (by simp [RS.reset]; omega)
    have C := Lib.hid (T.out wa hR hF hs)
    replace hwa := Lib.hid hwa.symm
    clear key hR hF hs T
    go_enter Try.func51, Try.ntmps51
    go_wp2_with fail
    rw [hwa.out]
    refine C.out.mono ?_
    rintro e w2 ⟨rfl, S2, f2⟩
    go_wp2_with fail
    go_end0
    exact ⟨rfl, S2, f2⟩
  · obtain ⟨wa, hwa, hR, hF, hs⟩ := key n n (by simp [RS.reset]; omega)
    have C := Lib.hid (T.out wa hR hF hs)
    replace hwa := Lib.hid hwa.symm
    clear key hR hF hs T
    go_enter Try.func51, Try.ntmps51
    go_wp2_with fail
    rw [hwa.out]
    refine C.out.mono ?_
    rintro e w2 ⟨rfl, S2, f2⟩
    go_wp2_with fail
    go_end0
    exact ⟨rfl, S2, f2⟩
  · obtain ⟨wa, hwa, hR, hF, hs⟩ := key n n (by simp [RS.reset, g0])
    have C := Lib.hid (T.out wa hR hF hs)
    replace hwa := Lib.hid hwa.symm
    clear key hR hF hs T
    go_enter Try.func51, Try.ntmps51
    go_wp2_with fail
    rw [hwa.out]
    refine C.out.mono ?_
    rintro e w2 ⟨rfl, S2, f2⟩
    go_wp2_with fail
    go_end0
    exact ⟨rfl, S2, f2⟩
end Go.Proofs.Ytjgmlnkbplgloaa
