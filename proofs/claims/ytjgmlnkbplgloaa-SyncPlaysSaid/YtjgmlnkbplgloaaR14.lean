import Derived.Test.YtjgmlnkbplgloaaR13
import Derived.Test.YtjgmlnkbplgloaaS15
import Derived.Test.YtjgmlnkbplgloaaS5
namespace Go.Proofs.Ytjgmlnkbplgloaa
open Go.RowKit
set_option linter.unusedVariables false
set_option linter.unusedSimpArgs false
set_option maxHeartbeats 8000000
set_option maxRecDepth 20000
def EvArg (w : World) (v : Value) (l : List Ev) : Prop := ∃ (o : Option Addr) (cap : Nat), v = .slice o l.length cap ∧ ∀ (i : Nat) (h : i < l.length), ∃ b off, o = some ⟨b, off, none⟩ ∧ b < w.heap.size ∧ ∀ j, j < 6 → w.cell? ⟨b, off + i * 6 + j, none⟩ = l[i].cells[j]?
theorem events_nil (w : World) : Calls Try.prog 18 #[.slice none 0 0, .slice none 0 0] w fun e w' => e = .returned (.bool true) ∧ ∃ k, w' = w.drewN k := by
  go_enter Try.func18, Try.ntmps18
  go_wp2
  refine wp_loop_once ?_
  go_wp2
  go_ret
  exact ⟨rfl, 0, rfl⟩
theorem events_one (B1 B2 : Nat) (e : Ev) (w : World) (h1 : Pt w B1 TEv e.cells) (h2 : Pt w B2 TEv e.cells) : Calls Try.prog 18 #[.slice (some ⟨B1, 0, none⟩) 1 1, .slice (some ⟨B2, 0, none⟩) 1 1] w fun e w' => e = .returned (.bool true) ∧ ∃ k, w' = w.drewN k := by
  have c1 := h1.cell
  have c2 := h2.cell
  obtain ⟨way, kind, a, b, c, data⟩ := e
  simp only [Ev.cells] at c1 c2
  clear h1 h2
  have h01 : (0 : Int) < 1 := by omega
  go_enter Try.func18, Try.ntmps18
  go_wp2
  refine wp_loop_rounds 2 ?_
  rw [rounds_succ]
  go_wp2_with fail
  go_quiet (fail)
  go_wp2_with fail
  rw [rounds_succ]
  go_wp2
  go_ret
  exact ⟨rfl, _, rfl⟩
theorem events_same (B1 B2 : Nat) (v1 v2 : Value) (l : List Ev) (w : World) (h1 : EvRes B1 w v1 l) (h2 : EvRes B2 w v2 l) : Calls Try.prog 18 #[v1, v2] w fun e w' => e = .returned (.bool true) ∧ ∃ k, w' = w.drewN k := by
  rcases h1 with ⟨rfl, rfl⟩ | ⟨C1, e1, rfl, rfl, p1, _⟩
  · rcases h2 with ⟨rfl, _⟩ | ⟨_, _, _, h, _⟩
    · exact events_nil w
    · cases h
  · rcases h2 with ⟨_, h⟩ | ⟨C2, e2, rfl, h, p2, _⟩
    · cases h
    · cases h
      exact events_one C1 C2 _ w p1 p2
theorem EvRes.fr2 {B : Nat} {w w' : World} {v : Value} {l : List Ev} (h : EvRes B w v l) {ex : List Nat} (hf : Fr ex w w') (hx : ∀ x ∈ ex, x < B) : EvRes B w' v l := by
  rcases h with h | ⟨C, e, h1, h2, h3, h4⟩
  · exact .inl h
  · exact .inr ⟨C, e, h1, h2, hf.pt h3 (fun hm => by have := hx C hm; omega), h4⟩
theorem samesy_any {X : List Nat} (b br : Nat) (s : SS) (r : RS) (bo bt : Option Nat) (w : World) (h : SM X w b s) (hr : RM w br r bo bt) (hs : Sim r s) (hm : s.made = true) :
    Calls Try.prog 19 #[.pointer (some ⟨b, 0, none⟩), .pointer (some ⟨br, 0, none⟩)] w fun e w' => e = .returned (.bool true) ∧ Fr [] w w' := by
  have N1 := numbers_any b s w h hm
  have M1 := Lib.hid (fun w' (f : Fr [] w w') => major_any b s w' (h.fr f) hm)
  have W1 := Lib.hid (fun w' (f : Fr [] w w') => waits_any b s w' (h.fr f) hm)
  have A1 := Lib.hid (fun w' (f : Fr [] w w') => asked_any b s w' (h.fr f) hm)
  have A2 := Lib.hid (fun w' (f : Fr [] w w') => rasked_any br r bo bt w' (hr.fr0 f))
  have CR : ∀ w', Fr [] w w' → ∃ vo vt, ∀ j, w'.cell? ⟨br, j, none⟩ = (RS.cells r vo vt)[j]? := fun w' f => by
    obtain ⟨vo, vt, hp, _⟩ := hr.fr0 f
    exact ⟨vo, vt, hp.cell⟩
  replace CR := Lib.hid CR; replace N1 := Lib.hid N1
  have e1 := hs.m; have e2 := hs.a; have e3 := hs.r; have e4 := hs.opn; have e5 := hs.wt; have e6 := hs.kt; have e7 := hs.k
  replace e1 := Lib.hid e1; replace e2 := Lib.hid e2; replace e3 := Lib.hid e3; replace e4 := Lib.hid e4; replace e5 := Lib.hid e5; replace e6 := Lib.hid e6; replace e7 := Lib.hid e7
  clear h hr hs
  go_enter Try.func19, Try.ntmps19
  go_wp2_with fail
  refine N1.out.mono ?_
  rintro e w1 ⟨rfl, f1⟩
  replace f1 := Lib.hid f1
  go_wp2_with fail
  refine (M1.out _ f1.out).mono ?_
  rintro e w2 ⟨rfl, rfl⟩
  go_wp2_with fail
  refine (W1.out _ f1.out).mono ?_
  rintro e w2 ⟨rfl, rfl⟩
  go_wp2_with fail
  have A1' := A1.out _ f1.out
  cases hk : s.kt
  · rw [hk, if_neg (by simp)] at A1'
    replace A1' := Lib.hid A1'
    refine A1'.out.mono ?_
    rintro e w2 ⟨rfl, f2⟩
    have f12 := f1.out.trans f2
    have A2' := A2.out _ f12
    rw [e6.out, hk, if_neg (by simp)] at A2'
    replace f12 := Lib.hid f12; replace A2' := Lib.hid A2'; replace f2 := Lib.hid f2; replace hk := Lib.hid hk
    go_wp2_with fail
    refine A2'.out.mono ?_
    rintro e w3 ⟨rfl, f3⟩
    have f13 := f12.out.trans f3
    obtain ⟨vo, vt, cr⟩ := CR.out _ f13
    simp only [RS.cells, e1.out, e2.out, e3.out, e4.out, e5.out] at cr
    replace f13 := Lib.hid f13; replace f3 := Lib.hid f3
    go_wp2_with fail
    go_ret
    exact ⟨rfl, f13.out⟩
  · rw [hk, if_pos rfl] at A1'
    obtain ⟨g1, g2⟩ := e7.out hk
    replace A1' := Lib.hid A1'
    refine A1'.out.mono ?_
    rintro e w2 ⟨rfl, f2⟩
    have f12 := f1.out.trans f2
    have A2' := A2.out _ f12
    rw [e6.out, hk, if_pos rfl, g1, g2] at A2'
    replace f12 := Lib.hid f12; replace A2' := Lib.hid A2'; replace f2 := Lib.hid f2; replace hk := Lib.hid hk; replace g1 := Lib.hid g1; replace g2 := Lib.hid g2
    go_wp2_with fail
    refine A2'.out.mono ?_
    rintro e w3 ⟨rfl, f3⟩
    have f13 := f12.out.trans f3
    obtain ⟨vo, vt, cr⟩ := CR.out _ f13
    simp only [RS.cells, e1.out, e2.out, e3.out, e4.out, e5.out] at cr
    replace f13 := Lib.hid f13; replace f3 := Lib.hid f3
    go_wp2_with fail
    go_ret
    exact ⟨rfl, f13.out⟩
end Go.Proofs.Ytjgmlnkbplgloaa
