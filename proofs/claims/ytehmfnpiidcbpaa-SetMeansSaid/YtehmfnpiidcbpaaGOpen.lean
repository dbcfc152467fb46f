import Derived.Test.YtehmfnpiidcbpaaTClose
import Derived.Deep.Matrix
import Derived.Test.YtehmfnpiidcbpaaGS1
namespace Go.Proofs.Ytehmfnpiidcbpaa
open Go.ChangeShapes Go.WideShapes Go.ChangeAt Go.RowKit Go.Deep Go.Joins
set_option linter.unusedVariables false
set_option linter.unusedSimpArgs false
set_option maxRecDepth 20000
theorem add_none (b off n : Nat) : Addr.add ⟨b, off, none⟩ n = ⟨b, off + n, none⟩ := by
  unfold Addr.add
  split
  · rename_i h; subst h; rfl
  · rfl
theorem uBool : Try.prog.underlying 4 = some .bool := by kernel_rfl
theorem uIntO : Try.prog.underlying 3 = some (.int .i64) := by kernel_rfl
theorem uPairs : Try.prog.underlying 22 = some (.slice 51) := by kernel_rfl
theorem uArr2 : Try.prog.underlying 51 = some (.array 2 3) := by kernel_rfl
/-- Pairs that came in. -/
theorem pairs_of {H : Type} {enc : TypeId × Value → H} {w : World} {base : Nat} {sp : Nat → Bool} {held : Bool} {fuel : Nat} {cs : List Value} {x : DataW H × List MemPlace} (h : DataW.trod enc Try.prog w base sp held fuel 22 cs = some x) :
    ∃ v l, cs = [v] ∧ PIn w v l ∧ l.length ≤ 9223372036854775807 := by
  have hM : maxLen = 9223372036854775807 := by decide
  have hC : Try.prog.cellsOf 51 = 2 := by kernel_rfl
  have hC1 : Try.prog.cellsOf 3 = 1 := by kernel_rfl
  rcases open_slice uPairs h with ⟨rfl, rfl⟩ | ⟨a, len, cap, m, n, D, Pl, rfl, hb, hl, hcap, hm, hx, hf⟩
  · exact ⟨_, [], rfl, ⟨none, 0, rfl, by simp⟩, by simp⟩
  · have hlm : len ≤ m := by rw [hm]; split <;> omega
    rw [hC] at hf
    have hev : ∀ i, i < len → ∃ ev : Int × Int, w.cell? (a.add (i * 2 + 0)) = some (.int .i64 ev.1) ∧ w.cell? (a.add (i * 2 + 1)) = some (.int .i64 ev.2) := fun i hi => by
      obtain ⟨cs', hc, ht⟩ := hf i (by omega)
      obtain ⟨_, hcl, hat⟩ := World.cells?_some hc
      obtain ⟨xs, q, _, _, _, hlen, hg⟩ := DataW.trod_array uArr2 ht
      match cs', hcl with
      | [c0, c1], _ =>
        match xs, hlen with
        | [y0, y1], _ =>
          have g0 := hg 0 (by omega)
          have g1 := hg 1 (by omega)
          rw [hC1] at g0 g1
          simp at g0 g1
          obtain ⟨n0, e0, _⟩ := DataW.trod_int uIntO g0
          obtain ⟨n1, e1, _⟩ := DataW.trod_int uIntO g1
          simp only [List.cons.injEq, and_true] at e0 e1
          subst e0; subst e1
          have h0 := hat 0 (by omega)
          have h1 := hat 1 (by omega)
          rw [Go.Deep.add_add] at h0 h1
          exact ⟨(n0, n1), by simpa using h0, by simpa using h1⟩
    obtain ⟨f, hfe⟩ := choose_lt hev
    refine ⟨_, (List.range len).map f, rfl, ⟨some a, cap, by simp, fun i hi => ?_⟩, by simp; omega⟩
    have hi' : i < len := by simpa using hi
    have h0 := (hfe 0 (by omega)).1
    have hblk := World.block_lt_of_cell? w _ h0
    have hsp := World.cell?_spot h0
    obtain ⟨b, off, spot⟩ := a
    have hspot : spot = none := by simpa [Addr.add] using hsp
    subst hspot
    obtain ⟨h1, h2⟩ := hfe i hi'
    rw [add_none, ← Nat.add_assoc] at h1 h2
    exact ⟨b, off, rfl, by simpa [Addr.add] using hblk, by simpa using h1, by simpa using h2⟩
end Go.Proofs.Ytehmfnpiidcbpaa
