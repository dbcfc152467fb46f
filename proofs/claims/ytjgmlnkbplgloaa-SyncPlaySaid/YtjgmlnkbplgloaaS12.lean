import Derived.Test.YtjgmlnkbplgloaaS9b
import Derived.Test.YtjgmlnkbplgloaaS11
namespace Go.Proofs.Ytjgmlnkbplgloaa
open Go.RowKit
set_option linter.unusedVariables false
set_option linter.unusedSimpArgs false
set_option maxHeartbeats 8000000
set_option maxRecDepth 20000
variable {X : List Nat}
/-! ### On, whole -/
def bOk (b : Int) : Bool := decide (0 ≤ b) && decide (b ≤ 2)
def inR (a : Int) : Bool := decide (0 ≤ a) && decide (a ≤ 999999)
def goodE (e : Ev) : Bool :=
  if e.way = 0 then
    if e.kind = 1 ∨ e.kind = 3 ∨ e.kind = 4 then true
    else if e.kind = 2 then inR e.a
    else if e.kind = 5 then (decide (e.b = 1) || inR e.a) && bOk e.b
    else if e.kind = 7 then inR e.a && bOk e.b
    else false
  else if e.way = 1 then
    if e.kind = 1 ∨ e.kind = 3 ∨ e.kind = 4 ∨ e.kind = 2 then inR e.a
    else if e.kind = 5 ∨ e.kind = 7 then inR e.a && bOk e.b
    else false
  else false
def pt1 (s : SS) (k : Int) (mine : Bool) : SS := if k = 3 then { s with m := s.m + 1, major := if mine then 1 else 2 } else if mine then { s with m := s.m + 1, own := s.own ++ [s.m] } else { s with m := s.m + 1, theirs := s.theirs ++ [s.m] }
def belowS (s : SS) (e : Ev) : SS × List Ev :=
  if s.wt = true ∧ e.kind < 5 then (s, [])
  else if e.kind = 1 ∨ e.kind = 3 then if e.a ≠ s.m ∨ s.major ≠ 0 ∨ 999999 ≤ s.m then (s, [⟨0, 9, e.a, 0, 0, ByteArray.empty⟩]) else (pt1 s e.kind false, [⟨0, e.kind, e.a, 0, 0, ByteArray.empty⟩])
  else if e.kind = 2 then if e.a ∈ s.own then (SS.pruned { s with a := e.a + 1 }, [⟨0, 2, e.a, 0, 0, ByteArray.empty⟩]) else (s, [⟨0, 9, e.a, 0, 0, ByteArray.empty⟩])
  else if e.kind = 4 then if s.major = 1 then (s.settled, [⟨0, 4, e.a, 0, 0, ByteArray.empty⟩]) else (s, [⟨0, 9, e.a, 0, 0, ByteArray.empty⟩])
  else if e.kind = 5 then reqS s e
  else if s.wt = true then (s.anew e.b e.a, [⟨0, 7, e.a, e.b, 0, ByteArray.empty⟩]) else (s, [⟨0, 9, e.a, 0, 0, ByteArray.empty⟩])
def userS (s : SS) (e : Ev) : SS × List Ev × Int :=
  if s.wt = true then (s, [], 8)
  else if e.kind = 7 then
    if s.kt = true then if s.kh = 2 ∨ e.a = s.kn then (s.anew s.kh e.a, [⟨1, 7, e.a, s.kh, 0, ByteArray.empty⟩], 0) else (s, [], 5)
    else (s, [], 8)
  else if s.kt = true then (s, [], 8)
  else if e.kind = 1 ∨ e.kind = 3 then if s.major ≠ 0 then (s, [], 8) else if 999999 ≤ s.m then (s, [], 5) else (pt1 s e.kind true, [⟨1, e.kind, s.m, 0, 0, ByteArray.empty⟩], 0)
  else if e.kind = 2 then if e.a ∈ s.theirs then (SS.pruned { s with a := e.a + 1 }, [⟨1, 2, e.a, 0, 0, ByteArray.empty⟩], 0) else (s, [], 8)
  else if e.kind = 4 then if s.major = 2 then (s.settled, [⟨1, 4, s.m - 1, 0, 0, ByteArray.empty⟩], 0) else (s, [], 8)
  else backS s e
/-- What is always so of a side. -/
structure SI (s : SS) : Prop where
  made : s.made = true
  m0 : 0 ≤ s.m ∧ s.m ≤ 999999
  wh : s.wh = 0 ∨ s.wh = 1 ∨ s.wh = 2
  own : s.own.length < 900000
  theirs : s.theirs.length < 900000
def kinds (k : Int) : Prop := k = 1 ∨ k = 2 ∨ k = 3 ∨ k = 4 ∨ k = 5 ∨ k = 7
theorem below_ok3' (b : Nat) (s : SS) (eb ec : Int) (ed : ByteArray) (w : World) (h : SM X w b s) (hm : 0 ≤ s.m ∧ s.m < 999999) (hj : s.major = 0) (hw : s.wt = false) :
    Calls Try.prog 26 #[.pointer (some ⟨b, 0, none⟩), (Ev.mk 1 3 s.m eb ec ed).val] w fun e w' => (∃ v, e = .returned v ∧ EvRes w.heap.size w' v [⟨0, 3, s.m, 0, 0, ByteArray.empty⟩]) ∧ SM X w' b { s with m := s.m + 1, major := 2 } ∧ Fr [b] w w' := by
  dsimp only [Ev.val]
  obtain ⟨wb, hwb⟩ : ∃ x, w.alloc (.cells #[.int .i64 1, .int .i64 3, .int .i64 s.m, .int .i64 eb, .int .i64 ec, .string ed] TEv) = x := ⟨_, rfl⟩
  have PB := Pt.newA w TEv #[.int .i64 1, .int .i64 3, .int .i64 s.m, .int .i64 eb, .int .i64 ec, .string ed]
  rw [hwb] at PB
  have FB : Fr [] w wb := by rw [← hwb]; exact (Fr.refl [] w).alloc _
  obtain ⟨bx, hbx⟩ : ∃ x, w.heap.size = x := ⟨_, rfl⟩
  rw [hbx] at PB
  have cb := PB.cell
  have hS := h.fr FB
  have hlt : b < bx := by obtain ⟨_, _, hp, _⟩ := h; have := hp.lt; omega
  replace hS := Lib.hid hS; replace PB := Lib.hid PB; replace FB := Lib.hid FB
  clear h
  go_enter Try.func26, Try.ntmps26
  go_wp2_with fail
  refine (told_any 9 s.m 0 wb).mono ?_
  rintro e w1 ⟨⟨v1, rfl, hv1⟩, f1⟩
  obtain ⟨vo, vt, hp, ho, ht⟩ := hS.out.fr f1
  have hS1 := Lib.hid (hS.out.fr f1)
  have PB1 := f1.pt PB.out (by simp)
  have cs := hp.cell
  have c1 := PB1.cell
  simp only [SS.cells, hj, hw] at cs
  have hmm : (s.m != s.m) = false := by simp
  have hmm2 : decide (999999 ≤ s.m) = false := decide_eq_false (by omega)
  have hmm3 : ¬ (999999 ≤ s.m) := by omega
  replace hp := Lib.hid hp; replace ho := Lib.hid ho; replace ht := Lib.hid ht; replace PB1 := Lib.hid PB1; replace f1 := Lib.hid f1
  clear hv1 cb
  go_wp2_with fail
  go_quiet (fail)
  go_wp2_with fail
  have C := Lib.hid (point_major b s 7 2 (w1.drewN nq).drew (hS1.out.fr (((Fr.refl [] w1).drewN nq).drew)) hm)
  have PBq := (((Fr.refl [] w1).drewN nq).drew).pt PB1.out (by simp)
  have hS00 := PBq.cell 1
  have hSq : ∀ w', Fr [b] (w1.drewN nq).drew w' → w'.cell? ⟨bx, 1, none⟩ = some (.int .i64 3) := fun w' hf => (hf.pt PBq (by simp; omega)).cell 1
  replace hSq := Lib.hid hSq; replace PBq := Lib.hid PBq
  go_region_held3 (fun w' => w'.cell? ⟨bx, 1, none⟩ = some (.int .i64 3)) (first | exact hS00 | exact hSq.out _ f3.out) (first | (go_at_call 38; refine C.out.mono ?_; rintro e w3 ⟨rfl, hS3, f3⟩; replace hS3 := Lib.hid hS3; replace f3 := Lib.hid f3))
  have PB3 := f3.out.pt PBq.out (by simp; omega)
  have c3 := PB3.cell
  have FA : Fr [b] w w3 := (FB.out.mono (by simp)).trans ((f1.out.mono (by simp)).trans (((((Fr.refl [b] w1).drewN nq).drew)).trans f3.out))
  replace FA := Lib.hid FA; replace PB3 := Lib.hid PB3
  clear c1 cs
  go_wp2_with fail
  refine (told_any 3 s.m 0 w3).mono ?_
  rintro e w4 ⟨⟨v4, rfl, hv4⟩, f4⟩
  have FIN := FA.out.trans (f4.mono (by simp))
  have S4 := hS3.out.fr f4
  have V4 := hv4.le FA.out.size
  clear hv4 c3
  go_wp2
  go_ret
  exact ⟨⟨_, rfl, V4⟩, S4, FIN⟩
theorem below_any (b : Nat) (s : SS) (e : Ev) (w : World) (h : SM X w b s) (hI : SI s) (hw : e.way = 1) (hk : kinds e.kind) (ha : 0 ≤ e.a ∧ e.a ≤ 999999) (hb : e.kind = 5 ∨ e.kind = 7 → e.b = 0 ∨ e.b = 1 ∨ e.b = 2) :
    Calls Try.prog 26 #[.pointer (some ⟨b, 0, none⟩), e.val] w (BeR X b w (belowS s e).1 (belowS s e).2) := by
  have hn : s.own.length < 1000000 ∧ s.theirs.length < 1000000 := ⟨by have := hI.own; omega, by have := hI.theirs; omega⟩
  unfold belowS
  by_cases h1 : s.wt = true ∧ e.kind < 5
  · rw [if_pos h1]; exact below_waits b s e w h h1.2 h1.1
  · rw [if_neg h1]
    rcases hk with hk | hk | hk | hk | hk | hk
    · have hwt : s.wt = false := by cases hq : s.wt with | false => rfl | true => exact absurd ⟨hq, by omega⟩ h1
      rw [if_pos (.inl hk)]
      by_cases h2 : e.a ≠ s.m ∨ s.major ≠ 0 ∨ 999999 ≤ s.m
      · rw [if_pos h2]; exact below_bad1 b s e w h hk hwt h2
      · rw [if_neg h2]
        have hm : e.a = s.m := Classical.byContradiction fun hh => h2 (.inl hh)
        have hj : s.major = 0 := Classical.byContradiction fun hh => h2 (.inr (.inl hh))
        have hl : s.m < 999999 := by have : ¬ 999999 ≤ s.m := fun hh => h2 (.inr (.inr hh)); omega
        obtain ⟨way, kind, ea, eb, ec, ed⟩ := e
        dsimp only at hw hk hm
        subst hw; subst hk; subst hm
        have := below_dm b s eb ec ed w h hI.theirs ⟨hI.m0.1, hl⟩ hj hwt
        exact this
    · have hwt : s.wt = false := by cases hq : s.wt with | false => rfl | true => exact absurd ⟨hq, by omega⟩ h1
      rw [if_neg (by omega), if_pos hk]
      by_cases h2 : e.a ∈ s.own
      · rw [if_pos h2]; exact below_ok2 b s e w h hk hwt hn ha h2
      · rw [if_neg h2]; exact below_bad2 b s e w h hk hwt hn h2
    · have hwt : s.wt = false := by cases hq : s.wt with | false => rfl | true => exact absurd ⟨hq, by omega⟩ h1
      rw [if_pos (.inr hk)]
      by_cases h2 : e.a ≠ s.m ∨ s.major ≠ 0 ∨ 999999 ≤ s.m
      · rw [if_pos h2]; exact below_bad3 b s e w h hk hwt h2
      · rw [if_neg h2]
        have hm : e.a = s.m := Classical.byContradiction fun hh => h2 (.inl hh)
        have hj : s.major = 0 := Classical.byContradiction fun hh => h2 (.inr (.inl hh))
        have hl : s.m < 999999 := by have : ¬ 999999 ≤ s.m := fun hh => h2 (.inr (.inr hh)); omega
        obtain ⟨way, kind, ea, eb, ec, ed⟩ := e
        dsimp only at hw hk hm
        subst hw; subst hk; subst hm
        have := below_ok3' b s eb ec ed w h ⟨hI.m0.1, hl⟩ hj hwt
        exact this
    · have hwt : s.wt = false := by cases hq : s.wt with | false => rfl | true => exact absurd ⟨hq, by omega⟩ h1
      rw [if_neg (by omega), if_neg (by omega), if_pos hk]
      by_cases h2 : s.major = 1
      · rw [if_pos h2]; exact below_ok4 b s e w h hk hwt hn h2
      · rw [if_neg h2]; exact below_bad4 b s e w h hk hwt h2
    · rw [if_neg (by omega), if_neg (by omega), if_neg (by omega), if_pos hk]
      exact below_5 b s e w h hk (hb (.inl hk)) hI.wh
    · rw [if_neg (by omega), if_neg (by omega), if_neg (by omega), if_neg (by omega)]
      cases hq : s.wt
      · rw [if_neg (by simp)]; exact below_bad7 b s e w h hk hq
      · rw [if_pos rfl]; exact below_ok7 b s e w h hk hq hn
theorem user_any (b : Nat) (s : SS) (e : Ev) (w : World) (h : SM X w b s) (hI : SI s) (hw : e.way = 0) (hk : kinds e.kind) (ha : e.kind = 2 → 0 ≤ e.a ∧ e.a ≤ 999999) (hb : e.kind = 5 → e.b = 0 ∨ e.b = 1 ∨ e.b = 2) :
    Calls Try.prog 25 #[.pointer (some ⟨b, 0, none⟩), e.val] w (OnR X b w (userS s e).1 (userS s e).2.1 (userS s e).2.2) := by
  have hn : s.own.length < 900000 ∧ s.theirs.length < 900000 := ⟨hI.own, hI.theirs⟩
  unfold userS
  cases hwt : s.wt
  case true => rw [if_pos rfl]; exact user_waits b s e w h hwt
  case false =>
    rw [if_neg (by simp)]
    by_cases h7 : e.kind = 7
    · rw [if_pos h7]
      cases hkt : s.kt
      · rw [if_neg (by simp)]; exact user_bad7 b s e w h h7 hwt hkt
      · rw [if_pos rfl]
        by_cases h2 : s.kh = 2
        · rw [if_pos (.inl h2)]
          have := user_ok7a b s e w h h7 hwt hkt h2 hn
          rw [h2]; exact this
        · by_cases h3 : e.a = s.kn
          · rw [if_pos (.inr h3)]; exact user_ok7b b s e w h h7 hwt hkt h2 h3 hn
          · rw [if_neg (by simp [h2, h3])]; exact user_far7 b s e w h h7 hwt hkt h2 h3
    · rw [if_neg h7]
      cases hkt : s.kt
      case true => rw [if_pos rfl]; exact user_owes b s e w h hwt hkt h7
      case false =>
        rw [if_neg (by simp)]
        rcases hk with hk | hk | hk | hk | hk | hk
        · rw [if_pos (.inl hk)]
          by_cases h2 : s.major ≠ 0
          · rw [if_pos h2]; exact user_busy1 b s e w h hk hwt hkt h2
          · rw [if_neg h2]
            have h2' : s.major = 0 := by simpa using h2
            by_cases h3 : 999999 ≤ s.m
            · rw [if_pos h3]; exact user_far1 b s e w h hk hwt hkt h2' h3
            · rw [if_neg h3]
              have := user_ok1 b s e w h hk hwt hkt h2' ⟨hI.m0.1, by omega⟩ hI.own
              rw [hk]; exact this
        · rw [if_neg (by omega), if_pos hk]
          by_cases h2 : e.a ∈ s.theirs
          · rw [if_pos h2]
            obtain ⟨way, kind, ea, eb, ec, ed⟩ := e
            dsimp only at hw hk ha h2
            subst hw; subst hk
            have := user_uc b s ea eb ec ed w h ⟨by omega, by omega⟩ (ha rfl) h2 hwt hkt
            rw [hwt, hkt] at this
            exact this
          · rw [if_neg h2]; exact user_bad2 b s e w h hk hwt hkt hn h2
        · rw [if_pos (.inr hk)]
          by_cases h2 : s.major ≠ 0
          · rw [if_pos h2]; exact user_busy3 b s e w h hk hwt hkt h2
          · rw [if_neg h2]
            have h2' : s.major = 0 := by simpa using h2
            by_cases h3 : 999999 ≤ s.m
            · rw [if_pos h3]; exact user_far3 b s e w h hk hwt hkt h2' h3
            · rw [if_neg h3]
              have := user_ok3 b s e w h hk hwt hkt h2' ⟨hI.m0.1, by omega⟩ hI.own
              rw [hk]; exact this
        · rw [if_neg (by omega), if_neg (by omega), if_pos hk]
          by_cases h2 : s.major = 2
          · rw [if_pos h2]; exact user_ok4 b s e w h hk hwt hkt h2 hI.m0 hn
          · rw [if_neg h2]; exact user_bad4 b s e w h hk hwt hkt h2
        · rw [if_neg (by omega), if_neg (by omega), if_neg (by omega)]; exact user_5 b s e w h hk hwt hkt (hb hk)
        · exact absurd hk h7
end Go.Proofs.Ytjgmlnkbplgloaa
