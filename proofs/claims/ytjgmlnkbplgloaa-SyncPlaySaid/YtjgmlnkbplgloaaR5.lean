import Derived.Test.YtjgmlnkbplgloaaR4
import Derived.Deep.Cut
namespace Go.Proofs.Ytjgmlnkbplgloaa
open Go.RowKit
set_option linter.unusedVariables false
set_option linter.unusedSimpArgs false
set_option maxHeartbeats 8000000
set_option maxRecDepth 20000
def RS.tidied (s : RS) : RS := { s with own := s.own.filter (betw s.a s.m), other := s.other.filter (betw s.a s.m) }
theorem tidy_any (b : Nat) (s : RS) (bo bt : Option Nat) (w : World) (h : RM w b s bo bt) (hn : s.own.length < 900000 ∧ s.other.length < 900000) :
    Calls Try.prog 49 #[.pointer (some ⟨b, 0, none⟩)] w fun e w' => e = .returned (.tuple #[]) ∧ (∃ bo' bt', RM w' b s.tidied bo' bt' ∧ (∀ z, bo' = some z → w.heap.size ≤ z) ∧ ∀ z, bt' = some z → w.heap.size ≤ z) ∧ Fr [b] w w' := by
  obtain ⟨vo, vt, hp, ho, ht, hx1, hx2⟩ := h
  have io : IR0 w vo s.own := ho.ir0
  have hlt := hp.lt
  have hown := hp.drew.cell
  simp only [RS.cells] at hown
  have C1 := Lib.hid (between_any vo s.own s.a s.m w.drew (io.fr ((Fr.refl [] w).drew)) hn.1)
  go_enter Try.func49, Try.ntmps49
  go_upto_region 0 with fail
  go_cut [15] from 1 (fun v wx => ∃ v' bo', Pt wx b TRef (RS.cells { s with own := s.own.filter (betw s.a s.m) } v' vt) ∧ Row 1 wx v' (s.own.filter (betw s.a s.m)).length (ints (s.own.filter (betw s.a s.m))) bo' ∧ (∀ z, bo' = some z → w.heap.size ≤ z) ∧ (∀ z, bo' = some z → z < wx.heap.size) ∧ Row 1 wx vt s.other.length (ints s.other) bt ∧ Fr [b] w wx)
  case first =>
    go_region_law (first
      | (go_simp; go_at_call 58; refine C1.out.mono ?_; rintro e w2 ⟨v2, bo2, rfl, hR2, hb2, f2⟩; obtain ⟨o2, k2, rfl⟩ := hR2.len; have P2 := f2.pt hp.drew (by simp); have y2 := P2.cell; have z2 := P2.free; simp only [RS.cells] at y2; replace hR2 := Lib.hid hR2; replace hb2 : Hid (∀ z, bo2 = some z → w.heap.size ≤ z) := Lib.hid hb2; replace f2 := Lib.hid f2; replace P2 := Lib.hid P2))
    all_goals
      go_wp2_with fail
      go_meet
      case rel =>
        have F0 : Fr [] w w2 := ((Fr.refl [] w).drew).trans f2.out
        have FS : Fr [b] w2 (w2.setCell ⟨b, 5, none⟩ (.slice o2 (s.own.filter (betw s.a s.m)).length k2)) := (Fr.refl _ _).setCell (by simp) _
        have hbz : ∀ z, bo2 = some z → z ∉ [b] := fun z hz => by have := hb2.out z hz; simp; omega
        have hR3 := hR2.out.fr FS hbz
        exact ⟨_, bo2, P2.out.set' rfl, hR3, hb2.out, fun z hz => by subst hz; exact hR3.lt, (ht.fr F0 (by simp)).fr FS (fun z hz => by have := hx2 z hz; simp; exact this), (F0.mono (by simp)).trans FS⟩
  case rest =>
    obtain ⟨v1, bo1, P1, Q1, g1, l1, T1, F1⟩ := hcut
    have hown2 := P1.drew.cell
    simp only [RS.cells] at hown2
    have C2 := Lib.hid (between_any vt s.other s.a s.m wc.drew (T1.fr ((Fr.refl [] wc).drew) (by simp)).ir0 hn.2)
    go_wp2_with fail
    go_region_law (first
      | (go_simp; go_at_call 58; refine C2.out.mono ?_; rintro e w2 ⟨v2, bo2, rfl, hR2, hb2, f2⟩; obtain ⟨o2, k2, rfl⟩ := hR2.len; have P2 := f2.pt P1.drew (by simp); have y2 := P2.cell; have z2 := P2.free; simp only [RS.cells] at y2; replace hR2 := Lib.hid hR2; replace hb2 : Hid (∀ z, bo2 = some z → wc.heap.size ≤ z) := Lib.hid hb2; replace f2 := Lib.hid f2; replace P2 := Lib.hid P2))
    all_goals
      go_wp2_with fail
      go_end0
      have F0 : Fr [] wc w2 := ((Fr.refl [] wc).drew).trans f2.out
      have FS : Fr [b] w2 (w2.setCell ⟨b, 6, none⟩ (.slice o2 (s.other.filter (betw s.a s.m)).length k2)) := (Fr.refl _ _).setCell (by simp) _
      have hsz := F1.size
      have hbz : ∀ z, bo2 = some z → z ∉ [b] := fun z hz => by have := hb2.out z hz; simp; omega
      have hbz1 : ∀ z, bo1 = some z → z ∉ [b] := fun z hz => by have := g1 z hz; simp; omega
      refine ⟨rfl, ⟨bo1, bo2, ⟨_, _, P2.out.set' rfl, (Q1.fr F0 (by simp)).fr FS hbz1, hR2.out.fr FS hbz, fun z hz => ⟨by have := g1 z hz; omega, fun h2 => ?_⟩, fun z hz => by have := hb2.out z hz; omega⟩, g1, fun z hz => by have := hb2.out z hz; omega⟩, F1.trans ((F0.mono (by simp)).trans FS)⟩
      have := l1 z hz
      have := hb2.out z h2
      omega
end Go.Proofs.Ytjgmlnkbplgloaa
