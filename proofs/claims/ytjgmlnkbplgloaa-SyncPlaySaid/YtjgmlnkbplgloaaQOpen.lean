import Derived.Test.YtjgmlnkbplgloaaSOpen
import Derived.Test.YtjgmlnkbplgloaaQ5
import Derived.OpenShut
namespace Go.Proofs.Ytjgmlnkbplgloaa
open Go.ChangeShapes Go.WideShapes Go.ChangeAt Go.RowKit Go.Deep Go.Joins
set_option linter.unusedVariables false
theorem uArr2 : Try.prog.underlying 23 = some (.array 2 3) := by kernel_rfl
/-- Two numbers that came in by value. -/
theorem arr2_of {H : Type} {enc : TypeId × Value → H} {w : World} {base : Nat} {sp : Nat → Bool} {held : Bool} {r : Reach} {b0 : Nat} {v : Value} {d : DataW H} {p : List MemPlace} (hv : Value.okWide Try.prog w r b0 23 v) (h : DataW.Trod enc Try.prog w base sp held 23 v d p) :
    ∃ a b : Int, v = .agg #[.int .i64 a, .int .i64 b] := by
  have hu := uArr2
  have h1 : ∃ cs : Array Value, v = .agg cs ∧ cs.size = Try.prog.cellsOf 23 := by
    simp only [Value.okWide, hu] at hv
    obtain ⟨cs, h1, h2, _⟩ := hv
    exact ⟨cs, h1, h2⟩
  obtain ⟨cs, rfl, hsz⟩ := h1
  obtain ⟨l⟩ := cs
  have hC : Try.prog.cellsOf 23 = 2 := by kernel_rfl
  have hC1 : Try.prog.cellsOf 3 = 1 := by kernel_rfl
  match l, hsz.trans hC with
  | [c0, c1], _ =>
    obtain ⟨fuel, hf⟩ := h
    obtain ⟨xs, m, _, _, _, hlen, hg⟩ := DataW.trod_array hu hf
    match xs, hlen with
    | [y0, y1], _ =>
      have g0 := hg 0 (by omega)
      have g1 := hg 1 (by omega)
      rw [hC1] at g0 g1
      simp [Value.cells] at g0 g1
      obtain ⟨n0, e0, _⟩ := DataW.trod_int uInt g0
      obtain ⟨n1, e1, _⟩ := DataW.trod_int uInt g1
      simp only [List.cons.injEq, and_true] at e0 e1
      subst e0; subst e1
      exact ⟨n0, n1, rfl⟩
theorem add_none (b off n : Nat) : Addr.add ⟨b, off, none⟩ n = ⟨b, off + n, none⟩ := by
  unfold Addr.add
  split
  · rename_i h; subst h; rfl
  · rfl
theorem intArg_of {H : Type} {enc : TypeId × Value → H} {w : World} {base : Nat} {sp : Nat → Bool} {held : Bool} {fuel : Nat} {cs : List Value} {x : DataW H × List MemPlace} (h : DataW.trod enc Try.prog w base sp held fuel 22 cs = some x) :
    ∃ v l, cs = [v] ∧ IntArg w v l := by
  rcases open_ints uInts uInt (by kernel_rfl) h with ⟨rfl, rfl⟩ | ⟨a, len, cap, zs, rfl, hb, hl, hcap, hm, hx, hc, hwf⟩
  · exact ⟨_, [], rfl, none, 0, rfl, by simp, by simp⟩
  · have hlm : len ≤ zs.length := by rw [hm]; split <;> omega
    have htl : (zs.take len).length = len := by rw [List.length_take]; omega
    refine ⟨_, zs.take len, rfl, some a, cap, by rw [htl], fun x hx => ?_, fun i hi => ?_⟩
    · have := hwf x (List.mem_of_mem_take hx)
      have h2 : decide (IntKind.i64.min ≤ x) = true ∧ decide (x ≤ IntKind.i64.max) = true := by simpa [Lit.wf] using this
      rw [decide_eq_true_eq, decide_eq_true_eq, show IntKind.i64.min = -9223372036854775808 by decide +kernel, show IntKind.i64.max = 9223372036854775807 by decide +kernel] at h2
      exact h2
    · have h0 := hc i (by omega)
      have hz := hc 0 (by omega)
      have hblk := World.block_lt_of_cell? w _ hz
      have hsp := World.cell?_spot hz
      obtain ⟨b, off, spot⟩ := a
      have hspot : spot = none := by simpa [Addr.add] using hsp
      subst hspot
      refine ⟨b, off, rfl, by rw [add_none] at hblk; exact hblk, ?_⟩
      rw [add_none] at h0
      rw [h0, List.getD_eq_getElem?_getD, List.getElem?_eq_getElem (by omega)]
      simp
theorem resets_any (N : Int) (dv : Value) (ds : List Int) (h0 h1 : Int) (w : World) (hD : IntArg w dv ds) :
    Calls Try.prog 3 #[.int .i64 N, dv, .agg #[.int .i64 h0, .int .i64 h1]] w fun e w' => e = .returned (.bool true) ∧ Fr [] w w' := by
  by_cases hx : N < 0 ∨ 999999 < N ∨ 200 < ds.length
  · exact resets_out N dv ds h0 h1 w hD hx
  · exact resets_in N dv ds h0 h1 w hD (by omega) (by omega)
end Go.Proofs.Ytjgmlnkbplgloaa
