import Derived.Test.YtnggimkkjdipmaaTClose
import Derived.Test.YtnggimkkjdipmaaTB22
import Derived.SizedLaws
import Derived.Deep.Matrix
namespace Go.Proofs.Ytnggimkkjdipmaa
open Go.ChangeShapes Go.WideShapes Go.ChangeAt Go.RowKit Go.Deep Go.Joins
set_option linter.unusedVariables false
set_option linter.unusedSimpArgs false
set_option maxRecDepth 20000
theorem uBool : Try.prog.underlying 4 = some .bool := by kernel_rfl
section
variable {H : Type} {enc : TypeId × Value → H} {P : Program} {w : World} {base : Nat} {spare : Nat → Bool} {held : Bool}
theorem open_slice_fields {t e : TypeId} {fs : Array Field} {fuel : Nat} {cs : List Value} {x : DataW H × List MemPlace} (ht : P.underlying t = some (.slice e)) (he : P.underlying e = some (.struct fs))
    (hone : oneCellFields P fs = true) (hC : P.cellsOf e = fs.size) (h : DataW.trod enc P w base spare held fuel t cs = some x) :
    (cs = [.slice none 0 0] ∧ x = (.nil, [])) ∨
    ∃ (a : Addr) (len cap m : Nat) (D : Nat → DataW H) (Pl : Nat → List MemPlace), cs = [.slice (some a) len cap] ∧ base ≤ a.block ∧ len ≤ cap ∧ cap ≤ maxLen ∧ m = (if spare a.block then cap else len) ∧
      x = (.slice ((List.range len).map D) ((List.range (m - len)).map fun j => D (len + j)), MemPlace.row a (m * fs.size) ++ (List.range m).flatMap Pl) ∧
      ∀ i, i < m → ∃ (ys : List (DataW H × List MemPlace)) (n : Nat), D i = .agg (ys.map (·.1)) ∧ Pl i = ys.flatMap (·.2) ∧ ys.length = fs.size ∧
        ∀ (j : Nat) (f : Field), fs[j]? = some f → ∃ (v : Value) (y : DataW H × List MemPlace), w.cell? (a.add (i * fs.size + j)) = some v ∧ ys[j]? = some y ∧ DataW.trod enc P w base spare held n f.type [v] = some y := by
  rcases open_slice ht h with h0 | ⟨a, len, cap, m, n, D, Pl, hcs, hb, hl, hm, hmm, hx, hi⟩
  · exact .inl h0
  · refine .inr ⟨a, len, cap, m, D, Pl, hcs, hb, hl, hm, hmm, by rw [hC] at hx; exact hx, fun i him => ?_⟩
    obtain ⟨cs', hc, ht'⟩ := hi i him
    rw [hC] at hc
    obtain ⟨ys, n', hn', hy, hlen, hyl, hf⟩ := DataW.trod_struct he ht'
    obtain ⟨_, hcl, hat⟩ := World.cells?_some hc
    simp only [Prod.mk.injEq] at hy
    refine ⟨ys, n', hy.1, hy.2, hyl, fun j f hj => ?_⟩
    obtain ⟨ho, hk⟩ := hone_of hone j f hj
    have hjl : j < fs.size := (Array.getElem?_eq_some_iff.1 hj).1
    have hcell := hat j hjl
    have hv : cs'[j]? = some (cs'[j]'(by omega)) := List.getElem?_eq_getElem (by omega)
    have h1 := hf j f hj
    rw [ho, hk] at h1
    have hone' : (cs'.drop j).take 1 = [cs'[j]'(by omega)] := by
      rw [List.drop_eq_getElem_cons (by omega)]
      rfl
    rw [hone'] at h1
    have hys : ys[j]? = some (ys[j]'(by omega)) := List.getElem?_eq_getElem (by omega)
    refine ⟨_, _, ?_, hys, h1.trans hys⟩
    rw [← Go.Deep.add_add, hcell, hv]
end
theorem open_agg4 {H : Type} {enc : TypeId × Value → H} {P : Program} {w : World} {base : Nat} {spare : Nat → Bool} {held : Bool} {r : Reach} {b0 : Nat} {t : TypeId} {f0 f1 f2 f3 : Field} {v : Value} {d : DataW H} {p : List MemPlace} (hs : P.underlying t = some (.struct #[f0, f1, f2, f3])) (hone : oneCellFields P #[f0, f1, f2, f3] = true) (hC : P.cellsOf t = 4)
    (hv : Value.okWide P w r b0 t v) (h : DataW.Trod enc P w base spare held t v d p) :
    ∃ (v0 v1 v2 v3 : Value) (y0 y1 y2 y3 : DataW H × List MemPlace) (n : Nat), v = .agg #[v0, v1, v2, v3] ∧ d = .agg [y0.1, y1.1, y2.1, y3.1] ∧
      DataW.trod enc P w base spare held n f0.type [v0] = some y0 ∧ DataW.trod enc P w base spare held n f1.type [v1] = some y1 ∧ DataW.trod enc P w base spare held n f2.type [v2] = some y2 ∧ DataW.trod enc P w base spare held n f3.type [v3] = some y3 := by
  obtain ⟨cs, rfl, hsz⟩ := okWide_struct hs hv
  obtain ⟨l⟩ := cs
  match l, hsz.trans hC with
  | [c0, c1, c2, c3], _ =>
    obtain ⟨fuel, hf⟩ := h
    obtain ⟨xs, n, _, hx, _, hlen, hg⟩ := DataW.trod_struct hs hf
    obtain ⟨o0, k0⟩ := hone_of hone 0 f0 rfl
    obtain ⟨o1, k1⟩ := hone_of hone 1 f1 rfl
    obtain ⟨o2, k2⟩ := hone_of hone 2 f2 rfl
    obtain ⟨o3, k3⟩ := hone_of hone 3 f3 rfl
    match xs, hlen with
    | [y0, y1, y2, y3], _ =>
      exact ⟨c0, c1, c2, c3, y0, y1, y2, y3, n, rfl, by simpa using congrArg Prod.fst hx, by simpa [Value.cells, o0, k0] using hg 0 f0 rfl, by simpa [Value.cells, o1, k1] using hg 1 f1 rfl, by simpa [Value.cells, o2, k2] using hg 2 f2 rfl, by simpa [Value.cells, o3, k3] using hg 3 f3 rfl⟩
noncomputable def rowFields : Array Field := (match Try.prog.underlying TRow with | some (.struct fs) => fs | _ => #[])
theorem uRow : Try.prog.underlying TRow = some (.struct rowFields) := by kernel_rfl
theorem rowTypes : rowFields.map (·.type) = #[3, 3] := by kernel_rfl
theorem bytesOfRow : Try.prog.bytesOf TRow = 16 := by kernel_rfl
theorem bytesOfRows : Try.prog.bytesOf 71 = 24 := by kernel_rfl
theorem add_none (b off n : Nat) : Addr.add ⟨b, off, none⟩ n = ⟨b, off + n, none⟩ := by
  unfold Addr.add
  split
  · rename_i h; subst h; rfl
  · rfl
theorem prow_of {H : Type} {enc : TypeId × Value → H} {w : World} {base : Nat} {sp : Nat → Bool} {held : Bool} {fuel : Nat} {cs : List Value} {x : DataW H × List MemPlace} (h : DataW.trod enc Try.prog w base sp held fuel 71 cs = some x) :
    ∃ v l, cs = [v] ∧ PIn w v l ∧ ((∀ n ∈ x.1.weights Try.prog 71, n ≤ reachBytes) → l.length * 16 ≤ 140737488351232) := by
  have hsz : rowFields.size = 2 := by kernel_rfl
  have hty : ∀ j f, rowFields[j]? = some f → f.type = #[3, 3].getD j 0 := fun j f hj => by
    have := congrArg (·[j]?) rowTypes
    simp only [Array.getElem?_map, hj, Option.map_some] at this
    rw [Array.getD_eq_getD_getElem?, ← this]; rfl
  rcases open_slice_fields uTRows uRow (by kernel_rfl) (by kernel_rfl) h with ⟨rfl, rfl⟩ | ⟨a, len, cap, m, D, Pl, rfl, hb, hl, hcap, hm, hx, hf⟩
  · exact ⟨_, [], rfl, ⟨none, 0, rfl, by simp⟩, by simp⟩
  · have hlm : len ≤ m := by rw [hm]; split <;> omega
    rw [hsz] at hf
    have hev : ∀ i, i < len → ∃ ev : Int × Int, w.cell? (a.add (i * 2 + 0)) = some (.int .i64 ev.1) ∧ w.cell? (a.add (i * 2 + 1)) = some (.int .i64 ev.2) := fun i hi => by
      obtain ⟨ys, n, _, _, hyl, hj⟩ := hf i (by omega)
      have get : ∀ j, j < 2 → ∃ v y, w.cell? (a.add (i * 2 + j)) = some v ∧ DataW.trod enc Try.prog w base sp held n (#[3, 3].getD j 0) [v] = some y := fun j hjl => by
        have hjs : j < rowFields.size := by rw [hsz]; exact hjl
        obtain ⟨v, y, h1, _, h3⟩ := hj j rowFields[j] (Array.getElem?_eq_getElem hjs)
        rw [hty j _ (Array.getElem?_eq_getElem hjs)] at h3
        exact ⟨v, y, h1, h3⟩
      obtain ⟨v0, y0, c0, t0⟩ := get 0 (by omega)
      obtain ⟨v1, y1, c1, t1⟩ := get 1 (by omega)
      obtain ⟨n0, e0, _⟩ := DataW.trod_int uInt t0
      obtain ⟨n1, e1, _⟩ := DataW.trod_int uInt t1
      simp only [List.cons.injEq, and_true] at e0 e1
      subst e0; subst e1
      exact ⟨(n0, n1), c0, c1⟩
    obtain ⟨f, hfe⟩ := choose_lt hev
    refine ⟨_, (List.range len).map f, rfl, ⟨some a, cap, by simp, fun i hi => ?_⟩, fun hw => ?_⟩
    · have hi' : i < len := by simpa using hi
      have h0 := (hfe 0 (by omega)).1
      have hblk := World.block_lt_of_cell? w _ h0
      have hsp := World.cell?_spot h0
      obtain ⟨b, off, spot⟩ := a
      have hspot : spot = none := by simpa [Addr.add] using hsp
      subst hspot
      obtain ⟨h1, h2⟩ := hfe i hi'
      rw [add_none, ← Nat.add_assoc] at h1 h2
      exact ⟨b, off, rfl, by simpa [Addr.add] using hblk, by simpa using h1, by simpa using h2⟩
    · subst hx
      have := hw _ (by simp only [DataW.weights, uTRows]; exact List.mem_cons_self)
      simp only [List.length_map, List.length_range, bytesOfRow, reachBytes] at this ⊢
      omega
theorem rows_of {H : Type} {enc : TypeId × Value → H} {w : World} {base : Nat} {sp : Nat → Bool} {held : Bool} {fuel : Nat} {cs : List Value} {x : DataW H × List MemPlace} (h : DataW.trod enc Try.prog w base sp held fuel 22 cs = some x) :
    ∃ v l, cs = [v] ∧ RIn w v l ∧ ((∀ n ∈ x.1.weights Try.prog 22, n ≤ reachBytes) → l.length * 24 ≤ 140737488351232 ∧ ∀ r ∈ l, r.length * 16 ≤ 140737488351232) := by
  have hC : Try.prog.cellsOf 71 = 1 := by kernel_rfl
  rcases open_slice uTRs h with ⟨rfl, rfl⟩ | ⟨a, len, cap, m, n, D, Pl, rfl, hb, hl, hcap, hm, hx, hf⟩
  · exact ⟨_, [], rfl, ⟨none, 0, rfl, by simp⟩, by simp⟩
  · have hlm : len ≤ m := by rw [hm]; split <;> omega
    rw [hC] at hf
    have hev : ∀ i, i < len → ∃ q : Value × List (Int × Int), w.cell? (a.add i) = some q.1 ∧ PIn w q.1 q.2 ∧ ((∀ n ∈ (D i).weights Try.prog 71, n ≤ reachBytes) → q.2.length * 16 ≤ 140737488351232) := fun i hi => by
      obtain ⟨cs', hc, ht⟩ := hf i (by omega)
      obtain ⟨u, l, rfl, h1, h2⟩ := prow_of ht
      obtain ⟨_, _, hat⟩ := World.cells?_some hc
      have := hat 0 (by omega)
      rw [Nat.mul_one] at this
      exact ⟨(u, l), by simpa [Addr.add] using this, h1, h2⟩
    obtain ⟨f, hfe⟩ := choose_lt hev
    refine ⟨_, (List.range len).map fun i => (f i).2, rfl, ⟨some a, cap, by simp, fun i hi => ?_⟩, fun hw => ?_⟩
    · have hi' : i < len := by simpa using hi
      have h0 := (hfe i hi').1
      have hblk := World.block_lt_of_cell? w _ h0
      have hsp := World.cell?_spot (hfe 0 (by omega)).1
      obtain ⟨b, off, spot⟩ := a
      have hspot : spot = none := by simpa [Addr.add] using hsp
      subst hspot
      rw [add_none] at h0 hblk
      exact ⟨b, off, (f i).1, rfl, hblk, h0, by simpa using (hfe i hi').2.1⟩
    · subst hx
      have h1 := hw _ (by simp only [DataW.weights, uTRs]; exact List.mem_cons_self)
      simp only [List.length_map, List.length_range, bytesOfRows, reachBytes] at h1 ⊢
      refine ⟨by omega, fun r hr => ?_⟩
      obtain ⟨i, hi, rfl⟩ := List.mem_map.mp hr
      have hi' : i < len := List.mem_range.mp hi
      refine (hfe i hi').2.2 (fun q hq => hw q ?_)
      simp only [DataW.weights, uTRs]
      refine List.mem_cons_of_mem _ (List.mem_append_left _ ?_)
      have key : ∀ (l : List (DataW H)) (d : DataW H), d ∈ l → ∀ q ∈ d.weights Try.prog 71, q ∈ DataW.weightsAll Try.prog 71 l := by
        intro l
        induction l with
        | nil => intro d hd; cases hd
        | cons x xs ih =>
          intro d hd q hq
          simp only [DataW.weightsAll, List.mem_append]
          rcases List.mem_cons.mp hd with e | e
          · subst e; exact .inl hq
          · exact .inr (ih d e q hq)
      exact key _ (D i) (List.mem_map.mpr ⟨i, hi, rfl⟩) q hq
/-- A table that came in by value. -/
theorem tabArg_of {H : Type} {enc : TypeId × Value → H} {w : World} {base : Nat} {sp : Nat → Bool} {held : Bool} {r : Reach} {b0 : Nat} {v : Value} {d : DataW H} {p : List MemPlace} (hv : Value.okWide Try.prog w r b0 TTab v) (h : DataW.Trod enc Try.prog w base sp held TTab v d p) :
    ∃ T, TIn w v T ∧ ((∀ n ∈ d.weights Try.prog TTab, n ≤ reachBytes) → Fits T) := by
  obtain ⟨v0, v1, v2, v3, y0, y1, y2, y3, n, rfl, rfl, t0, t1, t2, t3⟩ := open_agg4 Try.underlying24 (by kernel_rfl) (by kernel_rfl) hv h
  obtain ⟨n0, e0, _⟩ := DataW.trod_int uInt t0
  obtain ⟨n1, e1, _⟩ := DataW.trod_int uInt t1
  obtain ⟨n2, e2, _⟩ := DataW.trod_int uInt t2
  obtain ⟨u, l, e3, hR, hW⟩ := rows_of t3
  simp only [List.cons.injEq, and_true] at e0 e1 e2 e3
  subst e0; subst e1; subst e2; subst e3
  refine ⟨⟨n0, n1, n2, l⟩, ⟨_, rfl, hR⟩, fun hw => hW (fun q hq => hw q ?_)⟩
  have hu := Try.underlying24
  simp only [DataW.weights, hu, List.map_cons, DataW.weightsEach, List.mem_append]
  exact .inr (.inr (.inr (.inl hq)))
/-- Numbers that came in. -/
theorem nin_of {H : Type} {enc : TypeId × Value → H} {w : World} {base : Nat} {sp : Nat → Bool} {held : Bool} {fuel : Nat} {cs : List Value} {x : DataW H × List MemPlace} (h : DataW.trod enc Try.prog w base sp held fuel 25 cs = some x) :
    ∃ v l, cs = [v] ∧ NIn w v l ∧ l.length ≤ 9223372036854775807 ∧ (∀ x ∈ l, -9223372036854775808 ≤ x ∧ x ≤ 9223372036854775807) := by
  rcases open_ints uInts uInt (by kernel_rfl) h with ⟨rfl, rfl⟩ | ⟨a, len, cap, zs, rfl, hb, hl, hcap, hm, hx, hc, hwf⟩
  · exact ⟨_, [], rfl, ⟨none, 0, rfl, by simp⟩, by simp, by simp⟩
  · have hlm : len ≤ zs.length := by rw [hm]; split <;> omega
    have htl : (zs.take len).length = len := by rw [List.length_take]; omega
    refine ⟨_, zs.take len, rfl, ⟨some a, cap, by rw [htl], fun i hi => ?_⟩, ?_, fun x hx => ?_⟩
    · have h0 := hc i (by omega)
      have hz := hc 0 (by omega)
      have hblk := World.block_lt_of_cell? w _ hz
      have hsp := World.cell?_spot hz
      obtain ⟨b, off, spot⟩ := a
      have hspot : spot = none := by simpa [Addr.add] using hsp
      subst hspot
      refine ⟨b, off, rfl, by rw [add_none] at hblk; exact hblk, ?_⟩
      rw [add_none] at h0
      rw [h0, List.getD_eq_getElem?_getD, List.getElem?_eq_getElem (by omega)]
      simp
    · rw [htl]; have : maxLen ≤ 9223372036854775807 := by decide
      omega
    · have := hwf x (List.mem_of_mem_take hx)
      have h2 : decide (IntKind.i64.min ≤ x) = true ∧ decide (x ≤ IntKind.i64.max) = true := by simpa [Lit.wf] using this
      rw [decide_eq_true_eq, decide_eq_true_eq, show IntKind.i64.min = -9223372036854775808 by decide +kernel, show IntKind.i64.max = 9223372036854775807 by decide +kernel] at h2
      exact h2
end Go.Proofs.Ytnggimkkjdipmaa
