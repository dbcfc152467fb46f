import Derived.Test.YtjgmlnkbplgloaaS6
namespace Go.Proofs.Ytjgmlnkbplgloaa
open Go.RowKit
set_option linter.unusedVariables false
set_option linter.unusedSimpArgs false
set_option maxHeartbeats 4000000
set_option maxRecDepth 20000
variable {X : List Nat}
/-- What a call that meets an event leaves. -/
def OnR (X : List Nat) (b : Nat) (w : World) (s' : SS) (L : List Ev) (c : Int) (r : Ending) (w' : World) : Prop := (∃ v, r = .returned (.tuple #[v, .int .i64 c]) ∧ EvRes w.heap.size w' v L) ∧ SM X w' b s' ∧ Fr [b] w w'
def BeR (X : List Nat) (b : Nat) (w : World) (s' : SS) (L : List Ev) (r : Ending) (w' : World) : Prop := (∃ v, r = .returned v ∧ EvRes w.heap.size w' v L) ∧ SM X w' b s' ∧ Fr [b] w w'
def backS (s : SS) (e : Ev) : SS × List Ev × Int :=
  if e.b = 0 ∧ (e.a < s.r ∨ s.m < e.a) then (s, [], 5) else ({ s with wt := true, wh := e.b, wn := if e.b = 1 then s.m else e.a }, [⟨1, 5, if e.b = 1 then s.m else e.a, e.b, 0, ByteArray.empty⟩], 0)
theorem back_bad (b : Nat) (s : SS) (e : Ev) (w : World) (h : SM X w b s) (hb : e.b = 0) (hx : e.a < s.r ∨ s.m < e.a) :
    Calls Try.prog 43 #[.pointer (some ⟨b, 0, none⟩), e.val] w (OnR X b w s [] 5) := by
  have hS := h
  obtain ⟨vo, vt, hp, ho, ht⟩ := h
  have hc := hp.cell
  simp only [SS.cells] at hc
  obtain ⟨way, kind, a, eb, c, d⟩ := e
  dsimp only at hb hx
  subst hb
  have hlt := hp.lt
  have FB : Fr [b] w (w.alloc (.cells #[.int .i64 way, .int .i64 kind, .int .i64 a, .int .i64 0, .int .i64 c, .string d] TEv)) := (Fr.refl _ _).alloc _
  have SB : SM X (w.alloc (.cells #[.int .i64 way, .int .i64 kind, .int .i64 a, .int .i64 0, .int .i64 c, .string d] TEv)) b s := hS.fr ((Fr.refl [] w).alloc _)
  replace FB := Lib.hid FB; replace SB := Lib.hid SB
  clear hp ho ht hS
  dsimp only [Ev.val]
  rcases (by omega : a < s.r ∨ (¬ a < s.r ∧ s.m < a)) with h1 | ⟨h1, h2⟩
  all_goals
    go_enter Try.func43, Try.ntmps43
    go_wp2_with fail
    go_ret2
    exact ⟨⟨_, rfl, .inl ⟨rfl, rfl⟩⟩, SB.out, FB.out⟩
theorem back_ok (b : Nat) (s : SS) (e : Ev) (w : World) (h : SM X w b s) (hb : e.b = 0 ∨ e.b = 1 ∨ e.b = 2) (hx : ¬ (e.b = 0 ∧ (e.a < s.r ∨ s.m < e.a))) :
    Calls Try.prog 43 #[.pointer (some ⟨b, 0, none⟩), e.val] w (OnR X b w { s with wt := true, wh := e.b, wn := if e.b = 1 then s.m else e.a } [⟨1, 5, if e.b = 1 then s.m else e.a, e.b, 0, ByteArray.empty⟩] 0) := by
  have hS := h
  obtain ⟨vo, vt, hp, ho, ht⟩ := h
  obtain ⟨way, kind, a, eb, c, d⟩ := e
  dsimp only at hb hx
  have hlt := hp.lt
  obtain ⟨wb, hwb⟩ : ∃ x, w.alloc (.cells #[.int .i64 way, .int .i64 kind, .int .i64 a, .int .i64 eb, .int .i64 c, .string d] TEv) = x := ⟨_, rfl⟩
  have PB := Pt.newA w TEv #[.int .i64 way, .int .i64 kind, .int .i64 a, .int .i64 eb, .int .i64 c, .string d]
  rw [hwb] at PB
  have FB : Fr [] w wb := by rw [← hwb]; exact (Fr.refl [] w).alloc _
  obtain ⟨bx, hbx⟩ : ∃ x, w.heap.size = x := ⟨_, rfl⟩
  rw [hbx] at PB
  have SB := hS.fr FB
  obtain ⟨N, hN⟩ : ∃ N, (if eb = 1 then s.m else a) = N := ⟨_, rfl⟩
  have SN := SB.wait true eb N
  have FN := (FB.mono (ex' := [b]) (by simp)).three 8 9 10 (.bool true) (.int .i64 eb) (.int .i64 N)
  obtain ⟨wn, hwn⟩ : ∃ x, (((wb.setCell ⟨b, 8, none⟩ (.bool true)).setCell ⟨b, 9, none⟩ (.int .i64 eb)).setCell ⟨b, 10, none⟩ (.int .i64 N)) = x := ⟨_, rfl⟩
  rw [hwn] at SN FN
  have PN := (((PB.ne (p := ⟨b, 8, none⟩) (by simp; omega) (.bool true)).ne (p := ⟨b, 9, none⟩) (by simp; omega) (.int .i64 eb)).ne (p := ⟨b, 10, none⟩) (by simp; omega) (.int .i64 N))
  rw [hwn] at PN
  have cn := PN.cell
  have cb := PB.cell
  have hpb := FB.pt hp (by simp)
  have hc := hpb.cell
  have hz := hpb.free
  simp only [SS.cells] at hc
  have hbn : b ≠ bx := by omega
  have C := Lib.hid (sent_any 5 N eb wn)
  replace SN := Lib.hid SN; replace FN := Lib.hid FN; replace PN := Lib.hid PN; replace PB := Lib.hid PB; replace FB := Lib.hid FB; replace SB := Lib.hid SB; replace hpb := Lib.hid hpb; replace hp := Lib.hid hp; replace ho := Lib.hid ho; replace ht := Lib.hid ht
  clear hS
  dsimp only [Ev.val]
  rw [hN]
  replace hwn := Lib.hid hwn
  have WK : ∀ (V : Value) (w3 : World), EvRes wn.heap.size w3 V [⟨1, 5, N, eb, 0, ByteArray.empty⟩] → Fr [] wn w3 → OnR X b w { s with wt := true, wh := eb, wn := N } [⟨1, 5, N, eb, 0, ByteArray.empty⟩] 0 (.returned (.tuple #[V, .int .i64 0])) w3 := fun V w3 hv hf => ⟨⟨_, rfl, hv.le FN.out.size⟩, SN.out.fr hf, FN.out.trans (hf.mono (by simp))⟩
  replace WK := Lib.hid WK
  rcases hb with rfl | rfl | rfl
  · have h1 : ¬ a < s.r := by omega
    have h2 : ¬ s.m < a := by omega
    obtain rfl : a = N := by simpa using hN
    go_enter Try.func43, Try.ntmps43
    go_wp2_with fail
    rw [hwn.out]
    go_wp2_with fail
    refine C.out.mono ?_
    rintro e w3 ⟨⟨v3, rfl, hv3⟩, f3⟩
    have R := WK.out v3 w3 hv3 f3
    clear cn cb hc hz hv3 f3
    go_wp2
    go_ret2
    exact R
  · obtain rfl : s.m = N := by simpa using hN
    go_enter Try.func43, Try.ntmps43
    go_wp2_with fail
    rw [hwn.out]
    go_wp2_with fail
    refine C.out.mono ?_
    rintro e w3 ⟨⟨v3, rfl, hv3⟩, f3⟩
    have R := WK.out v3 w3 hv3 f3
    clear cn cb hc hz hv3 f3
    go_wp2
    go_ret2
    exact R
  · obtain rfl : a = N := by simpa using hN
    go_enter Try.func43, Try.ntmps43
    go_wp2_with fail
    rw [hwn.out]
    go_wp2_with fail
    refine C.out.mono ?_
    rintro e w3 ⟨⟨v3, rfl, hv3⟩, f3⟩
    have R := WK.out v3 w3 hv3 f3
    clear cn cb hc hz hv3 f3
    go_wp2
    go_ret2
    exact R
end Go.Proofs.Ytjgmlnkbplgloaa
