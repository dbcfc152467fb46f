import Derived.Test.YtehmfnpiidcbpaaGOpen
import Derived.Test.YtehmfnpiidcbpaaGM3
namespace Go.Proofs.Ytehmfnpiidcbpaa
open Go.ChangeShapes Go.WideShapes Go.ChangeAt Go.RowKit Go.Deep Go.Joins
set_option linter.unusedVariables false
set_option linter.unusedSimpArgs false
set_option maxRecDepth 20000
instance : Inhabited Nd := ⟨.mk 0 0 0 []⟩
theorem uRNo : Try.prog.underlying 38 = some (.slice 40) := by kernel_rfl
/-- A constraint that came in. -/
theorem nd_of {H : Type} {enc : TypeId × Value → H} {w : World} {base : Nat} {sp : Nat → Bool} {held : Bool} : ∀ (N fuel : Nat) (cs : List Value) (x : DataW H × List MemPlace), fuel ≤ N → DataW.trod enc Try.prog w base sp held fuel 40 cs = some x →
    ∃ n s, cs = [.int .i64 n.op, .int .i64 n.lo, .int .i64 n.hi, s] ∧ NI w n (ndV n s)
  | 0, fuel, cs, x, hN, h => by
    obtain rfl : fuel = 0 := by omega
    simp [DataW.trod] at h
  | N + 1, fuel, cs, x, hN, h => by
    have hC4 : Try.prog.cellsOf 40 = 4 := by kernel_rfl
    have hC1 : Try.prog.cellsOf 3 = 1 := by kernel_rfl
    have hCs : Try.prog.cellsOf 38 = 1 := by kernel_rfl
    obtain ⟨xs, n, hfu, hx, hcl, hlen, hg⟩ := DataW.trod_struct Try.underlying40 h
    rw [hC4] at hcl
    match cs, hcl with
    | [c0, c1, c2, c3], _ =>
      match xs, hlen with
      | [y0, y1, y2, y3], _ =>
        have g0 := hg 0 _ rfl
        have g1 := hg 1 _ rfl
        have g2 := hg 2 _ rfl
        have g3 := hg 3 _ rfl
        simp [hC1, hCs] at g0 g1 g2 g3
        obtain ⟨a0, e0, _⟩ := DataW.trod_int uIntO g0
        obtain ⟨a1, e1, _⟩ := DataW.trod_int uIntO g1
        obtain ⟨a2, e2, _⟩ := DataW.trod_int uIntO g2
        simp only [List.cons.injEq, and_true] at e0 e1 e2
        subst e0; subst e1; subst e2
        rcases DataW.trod_slice uRNo g3 with ⟨e3, _⟩ | ⟨a, len, cap, elems, rest, n', hfu', e3, _, _, hl, _, hel, hi, _⟩
        · simp only [List.cons.injEq, and_true] at e3
          subst e3
          exact ⟨.mk a0 a1 a2 [], _, rfl, NIn.mk a0 a1 a2 [] none 0 (fun _ => .slice none 0 0) (fun i hi => by cases hi) (fun i hi => by cases hi)⟩
        · simp only [List.cons.injEq, and_true] at e3
          subst e3
          rw [hC4] at hi
          have hev : ∀ i, i < len → ∃ k : Nd × Value, NI w k.1 (ndV k.1 k.2) ∧ w.cell? (a.add (i * 4 + 0)) = some (.int .i64 k.1.op) ∧ w.cell? (a.add (i * 4 + 1)) = some (.int .i64 k.1.lo) ∧ w.cell? (a.add (i * 4 + 2)) = some (.int .i64 k.1.hi) ∧ w.cell? (a.add (i * 4 + 3)) = some k.2 := fun i hil => by
            have h1 := hi i hil
            rw [List.getElem?_eq_getElem (by omega)] at h1
            obtain ⟨cs', hc, ht⟩ := Option.bind_eq_some_iff.1 h1
            obtain ⟨k, s', ecs, hk⟩ := nd_of N n' cs' _ (by omega) ht
            obtain ⟨_, hcl', hat⟩ := World.cells?_some hc
            subst ecs
            have q0 := hat 0 (by omega)
            have q1 := hat 1 (by omega)
            have q2 := hat 2 (by omega)
            have q3 := hat 3 (by omega)
            rw [Go.Deep.add_add] at q0 q1 q2 q3
            exact ⟨(k, s'), hk, by simpa using q0, by simpa using q1, by simpa using q2, by simpa using q3⟩
          obtain ⟨f, hfe⟩ := choose_lt hev
          refine ⟨.mk a0 a1 a2 ((List.range len).map fun i => (f i).1), _, rfl, ?_⟩
          have key := NIn.mk (q := fun _ => True) (w := w) a0 a1 a2 ((List.range len).map fun i => (f i).1) (some a) cap (fun i => (f i).2) (fun i hi' => by
            have hil : i < len := by simpa using hi'
            obtain ⟨_, r0, r1, r2, r3⟩ := hfe i hil
            have z0 := (hfe 0 (by omega)).2.1
            have hblk := World.block_lt_of_cell? w _ z0
            have hsp := World.cell?_spot z0
            obtain ⟨b, off, spot⟩ := a
            have hspot : spot = none := by simpa [Addr.add] using hsp
            subst hspot
            rw [add_none, ← Nat.add_assoc] at r0 r1 r2 r3
            refine ⟨b, off, rfl, by simpa [Addr.add] using hblk, trivial, ?_, ?_, ?_, ?_⟩
            · simpa using r0
            · simpa using r1
            · simpa using r2
            · simpa using r3) (fun i hi' => by
            have hil : i < len := by simpa using hi'
            have := (hfe i hil).1
            unfold ndV at this
            simpa using this)
          rw [List.length_map, List.length_range] at key
          exact key
theorem ndArg_of {H : Type} {enc : TypeId × Value → H} {w : World} {base : Nat} {sp : Nat → Bool} {held : Bool} {r : Reach} {b0 : Nat} {v : Value} {d : DataW H} {p : List MemPlace} (hv : Value.okWide Try.prog w r b0 40 v) (h : DataW.Trod enc Try.prog w base sp held 40 v d p) :
    ∃ n, NI w n v := by
  have hC4 : Try.prog.cellsOf 40 = 4 := by kernel_rfl
  obtain ⟨cs, rfl, hsz⟩ := okWide_struct Try.underlying40 hv
  obtain ⟨l⟩ := cs
  match l, hsz.trans hC4 with
  | [c0, c1, c2, c3], _ =>
    obtain ⟨fuel, hf⟩ := h
    obtain ⟨n, s, e, hn⟩ := nd_of fuel fuel _ _ (Nat.le_refl _) hf
    refine ⟨n, ?_⟩
    unfold ndV at hn
    simp [Value.cells] at e
    obtain ⟨rfl, rfl, rfl, rfl⟩ := e
    exact hn
end Go.Proofs.Ytehmfnpiidcbpaa
