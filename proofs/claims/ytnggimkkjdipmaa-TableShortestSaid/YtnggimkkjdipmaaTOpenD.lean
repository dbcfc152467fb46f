import Derived.Test.YtnggimkkjdipmaaTOpen
namespace Go.Proofs.Ytnggimkkjdipmaa
open Go.ChangeShapes Go.WideShapes Go.ChangeAt Go.RowKit Go.Deep Go.Joins
set_option linter.unusedVariables false
set_option linter.unusedSimpArgs false
set_option maxRecDepth 20000
abbrev TDc : TypeId := 45
noncomputable def fsDc : Array Field := match Try.prog.underlying TDc with | some (.struct fs) => fs | _ => #[]
noncomputable def fD0 : Field := fsDc.getD 0 default
noncomputable def fD1 : Field := fsDc.getD 1 default
noncomputable def fD2 : Field := fsDc.getD 2 default
noncomputable def fD3 : Field := fsDc.getD 3 default
theorem uDc : Try.prog.underlying TDc = some (.struct #[fD0, fD1, fD2, fD3]) := by kernel_rfl
noncomputable def fsTb : Array Field := match Try.prog.underlying TTab with | some (.struct fs) => fs | _ => #[]
noncomputable def fT0 : Field := fsTb.getD 0 default
noncomputable def fT1 : Field := fsTb.getD 1 default
noncomputable def fT2 : Field := fsTb.getD 2 default
noncomputable def fT3 : Field := fsTb.getD 3 default
theorem uTb : Try.prog.underlying TTab = some (.struct #[fT0, fT1, fT2, fT3]) := by kernel_rfl
/-- A table's four cells. -/
theorem tabCells_of {H : Type} {enc : TypeId × Value → H} {w : World} {base : Nat} {sp : Nat → Bool} {held : Bool} {fuel : Nat} {c0 c1 c2 c3 : Value} {x : DataW H × List MemPlace} (h : DataW.trod enc Try.prog w base sp held fuel TTab [c0, c1, c2, c3] = some x) :
    ∃ T r, c0 = .int .i64 T.st ∧ c1 = .int .i64 T.ev ∧ c2 = .int .i64 T.sr ∧ c3 = r ∧ RIn w r T.rows ∧ ((∀ n ∈ x.1.weights Try.prog TTab, n ≤ reachBytes) → Fits T) := by
  have t0 : fT0.type = 3 := by kernel_rfl
  have t1 : fT1.type = 3 := by kernel_rfl
  have t2 : fT2.type = 3 := by kernel_rfl
  have t3 : fT3.type = 22 := by kernel_rfl
  have o0 : fT0.offset = 0 := by kernel_rfl
  have o1 : fT1.offset = 1 := by kernel_rfl
  have o2 : fT2.offset = 2 := by kernel_rfl
  have o3 : fT3.offset = 3 := by kernel_rfl
  have hi : Try.prog.cellsOf 3 = 1 := by kernel_rfl
  have hr : Try.prog.cellsOf 22 = 1 := by kernel_rfl
  obtain ⟨xs, n, _, rfl, hl, hlen, hf⟩ := DataW.trod_struct uTb h
  match xs, hlen with
  | [y0, y1, y2, y3], _ =>
    have g0 := hf 0 fT0 rfl
    have g1 := hf 1 fT1 rfl
    have g2 := hf 2 fT2 rfl
    have g3 := hf 3 fT3 rfl
    rw [t0, o0, hi] at g0
    rw [t1, o1, hi] at g1
    rw [t2, o2, hi] at g2
    rw [t3, o3, hr] at g3
    simp at g0 g1 g2 g3
    obtain ⟨n0, e0, _⟩ := DataW.trod_int uInt g0
    obtain ⟨n1, e1, _⟩ := DataW.trod_int uInt g1
    obtain ⟨n2, e2, _⟩ := DataW.trod_int uInt g2
    obtain ⟨u, l, e3, hR, hW⟩ := rows_of g3
    simp only [List.cons.injEq, and_true] at e0 e1 e2 e3
    subst e0; subst e1; subst e2; subst e3
    refine ⟨⟨n0, n1, n2, l⟩, _, rfl, rfl, rfl, rfl, hR, fun hw => hW (fun q hq => hw q ?_)⟩
    simp only [DataW.weights, uTb, List.map_cons, DataW.weightsEach, List.mem_append]
    exact .inr (.inr (.inr (.inl (by rw [t3]; exact hq))))
/-- Two tables and two states that came in by value. -/
theorem dcArg_of {H : Type} {enc : TypeId × Value → H} {w : World} {base : Nat} {sp : Nat → Bool} {held : Bool} {r : Reach} {b0 : Nat} {v : Value} {d : DataW H} {p : List MemPlace} (hv : Value.okWide Try.prog w r b0 TDc v) (h : DataW.Trod enc Try.prog w base sp held TDc v d p) :
    ∃ A B ra rb a b, v = .agg #[.int .i64 A.st, .int .i64 A.ev, .int .i64 A.sr, ra, .int .i64 B.st, .int .i64 B.ev, .int .i64 B.sr, rb, .int .i64 a, .int .i64 b] ∧ RIn w ra A.rows ∧ RIn w rb B.rows ∧ ((∀ n ∈ d.weights Try.prog TDc, n ≤ reachBytes) → Fits A ∧ Fits B) := by
  have t0 : fD0.type = TTab := by kernel_rfl
  have t1 : fD1.type = TTab := by kernel_rfl
  have t2 : fD2.type = 3 := by kernel_rfl
  have t3 : fD3.type = 3 := by kernel_rfl
  have o0 : fD0.offset = 0 := by kernel_rfl
  have o1 : fD1.offset = 4 := by kernel_rfl
  have o2 : fD2.offset = 8 := by kernel_rfl
  have o3 : fD3.offset = 9 := by kernel_rfl
  have hi : Try.prog.cellsOf 3 = 1 := by kernel_rfl
  have hr : Try.prog.cellsOf TTab = 4 := by kernel_rfl
  have hC : Try.prog.cellsOf TDc = 10 := by kernel_rfl
  obtain ⟨cs, rfl, hsz⟩ := okWide_struct uDc hv
  obtain ⟨l⟩ := cs
  match l, hsz.trans hC with
  | [c0, c1, c2, c3, c4, c5, c6, c7, c8, c9], _ =>
    obtain ⟨fuel, hf0⟩ := h
    obtain ⟨xs, n, _, hx, hl, hlen, hf⟩ := DataW.trod_struct uDc hf0
    match xs, hlen with
    | [y0, y1, y2, y3], _ =>
      have g0 := hf 0 fD0 rfl
      have g1 := hf 1 fD1 rfl
      have g2 := hf 2 fD2 rfl
      have g3 := hf 3 fD3 rfl
      rw [t0, o0, hr] at g0
      rw [t1, o1, hr] at g1
      rw [t2, o2, hi] at g2
      rw [t3, o3, hi] at g3
      simp [Value.cells] at g0 g1 g2 g3
      obtain ⟨A, ra, rfl, rfl, rfl, rfl, hRA, hWA⟩ := tabCells_of g0
      obtain ⟨B, rb, rfl, rfl, rfl, rfl, hRB, hWB⟩ := tabCells_of g1
      obtain ⟨n2, e2, _⟩ := DataW.trod_int uInt g2
      obtain ⟨n3, e3, _⟩ := DataW.trod_int uInt g3
      simp only [List.cons.injEq, and_true] at e2 e3
      subst e2; subst e3
      have hd : d = .agg [y0.1, y1.1, y2.1, y3.1] := by simpa using congrArg Prod.fst hx
      subst hd
      refine ⟨A, B, _, _, n2, n3, rfl, hRA, hRB, fun hw => ⟨hWA (fun q hq => hw q ?_), hWB (fun q hq => hw q ?_)⟩⟩
      · simp only [DataW.weights, uDc, List.map_cons, DataW.weightsEach, List.mem_append]
        exact .inl (by rw [t0]; exact hq)
      · simp only [DataW.weights, uDc, List.map_cons, DataW.weightsEach, List.mem_append]
        exact .inr (.inl (by rw [t1]; exact hq))
end Go.Proofs.Ytnggimkkjdipmaa
