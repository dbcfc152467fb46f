import Derived.Test.YtjgmlnkbplgloaaSOpen
import Derived.Test.YtjgmlnkbplgloaaR15
namespace Go.Proofs.Ytjgmlnkbplgloaa
open Go.ChangeShapes Go.WideShapes Go.ChangeAt Go.RowKit Go.Deep Go.Joins
set_option linter.unusedVariables false
section
variable {H : Type} {enc : TypeId × Value → H} {P : Program} {w : World} {base : Nat} {spare : Nat → Bool} {held : Bool}
theorem open_slice_fields {t e : TypeId} {fs : Array Field} {fuel : Nat} {cs : List Value} {x : DataW H × List MemPlace} (ht : P.underlying t = some (.slice e)) (he : P.underlying e = some (.struct fs))
    (hone : oneCellFields P fs = true) (hC : P.cellsOf e = fs.size) (h : DataW.trod enc P w base spare held fuel t cs = some x) :
    (cs = [.slice none 0 0] ∧ x = (.nil, [])) ∨
    ∃ (a : Addr) (len cap m : Nat) (D : Nat → DataW H) (Pl : Nat → List MemPlace), cs = [.slice (some a) len cap] ∧ base ≤ a.block ∧ len ≤ cap ∧ cap ≤ maxLen ∧ m = (if spare a.block then cap else len) ∧
      x = (.slice ((List.range len).map D) ((List.range (m - len)).map fun j => D (len + j)), MemPlace.row a (m * fs.size) ++ (List.range m).flatMap Pl) ∧
      ∀ i, i < m → ∃ (ys : List (DataW H × List MemPlace)) (n : Nat), D i = .agg (ys.map (·.1)) ∧ Pl i = ys.flatMap (·.2) ∧ ys.length = fs.size ∧
        ∀ (j : Nat) (f : Field), fs[j]? = some f → ∃ (v : Value) (y : DataW H × List MemPlace), w.cell? (a.add (i * fs.size + j)) = some v ∧ ys[j]? = some y ∧ DataW.trod enc P w base spare held n f.type [v] = some y := by
  rcases open_slice ht h with h0 | ⟨a, len, cap, m, n, D, Pl, hcs, hb, hl, hm, hmm, hx, hi⟩
  · exact .inl h0
  · refine .inr ⟨a, len, cap, m, D, Pl, hcs, hb, hl, hm, hmm, by rw [hC] at hx; exact hx, fun i him => ?_⟩
    obtain ⟨cs', hc, ht'⟩ := hi i him
    rw [hC] at hc
    obtain ⟨ys, n', hn', hy, hlen, hyl, hf⟩ := DataW.trod_struct he ht'
    obtain ⟨_, hcl, hat⟩ := World.cells?_some hc
    simp only [Prod.mk.injEq] at hy
    refine ⟨ys, n', hy.1, hy.2, hyl, fun j f hj => ?_⟩
    obtain ⟨ho, hk⟩ := hone_of hone j f hj
    have hjl : j < fs.size := (Array.getElem?_eq_some_iff.1 hj).1
    have hcell := hat j hjl
    have hv : cs'[j]? = some (cs'[j]'(by omega)) := List.getElem?_eq_getElem (by omega)
    have h1 := hf j f hj
    rw [ho, hk] at h1
    have hone' : (cs'.drop j).take 1 = [cs'[j]'(by omega)] := by
      rw [List.drop_eq_getElem_cons (by omega)]
      rfl
    rw [hone'] at h1
    have hys : ys[j]? = some (ys[j]'(by omega)) := List.getElem?_eq_getElem (by omega)
    refine ⟨_, _, ?_, hys, h1.trans hys⟩
    rw [← Go.Deep.add_add, hcell, hv]
end
noncomputable def evFields : Array Field := (match Try.prog.underlying TEv with | some (.struct fs) => fs | _ => #[])
theorem uEv : Try.prog.underlying TEv = some (.struct evFields) := by kernel_rfl
theorem uEvs : Try.prog.underlying 27 = some (.slice TEv) := by kernel_rfl
theorem evTypes : evFields.map (·.type) = #[3, 3, 3, 3, 3, 9] := by kernel_rfl
theorem add_none (b off n : Nat) : Addr.add ⟨b, off, none⟩ n = ⟨b, off + n, none⟩ := by
  unfold Addr.add
  split
  · rename_i h; subst h; rfl
  · rfl
instance : Inhabited Ev := ⟨⟨0, 0, 0, 0, 0, ByteArray.empty⟩⟩
theorem evArg_of {H : Type} {enc : TypeId × Value → H} {w : World} {base : Nat} {sp : Nat → Bool} {held : Bool} {fuel : Nat} {cs : List Value} {x : DataW H × List MemPlace} (h : DataW.trod enc Try.prog w base sp held fuel 27 cs = some x) :
    ∃ v l, cs = [v] ∧ EvArg w v l := by
  have hsz : evFields.size = 6 := by kernel_rfl
  have hty : ∀ j f, evFields[j]? = some f → f.type = #[3, 3, 3, 3, 3, 9].getD j 0 := fun j f hj => by
    have := congrArg (·[j]?) evTypes
    simp only [Array.getElem?_map, hj, Option.map_some] at this
    rw [Array.getD_eq_getD_getElem?, ← this]; rfl
  rcases open_slice_fields uEvs uEv (by kernel_rfl) (by kernel_rfl) h with ⟨rfl, rfl⟩ | ⟨a, len, cap, m, D, Pl, rfl, hb, hl, hcap, hm, hx, hf⟩
  · exact ⟨_, [], rfl, none, 0, rfl, by simp⟩
  · have hlm : len ≤ m := by rw [hm]; split <;> omega
    rw [hsz] at hf
    have hev : ∀ i, i < len → ∃ ev : Ev, ∀ j, j < 6 → w.cell? (a.add (i * 6 + j)) = ev.cells[j]? := fun i hi => by
      obtain ⟨ys, n, _, _, hyl, hj⟩ := hf i (by omega)
      have get : ∀ j, j < 6 → ∃ v y, w.cell? (a.add (i * 6 + j)) = some v ∧ DataW.trod enc Try.prog w base sp held n (#[3, 3, 3, 3, 3, 9].getD j 0) [v] = some y := fun j hjl => by
        have hjs : j < evFields.size := by rw [hsz]; exact hjl
        obtain ⟨v, y, h1, _, h3⟩ := hj j evFields[j] (Array.getElem?_eq_getElem hjs)
        rw [hty j _ (Array.getElem?_eq_getElem hjs)] at h3
        exact ⟨v, y, h1, h3⟩
      obtain ⟨v0, y0, c0, t0⟩ := get 0 (by omega)
      obtain ⟨v1, y1, c1, t1⟩ := get 1 (by omega)
      obtain ⟨v2, y2, c2, t2⟩ := get 2 (by omega)
      obtain ⟨v3, y3, c3, t3⟩ := get 3 (by omega)
      obtain ⟨v4, y4, c4, t4⟩ := get 4 (by omega)
      obtain ⟨v5, y5, c5, t5⟩ := get 5 (by omega)
      obtain ⟨n0, e0, _⟩ := DataW.trod_int uInt t0
      obtain ⟨n1, e1, _⟩ := DataW.trod_int uInt t1
      obtain ⟨n2, e2, _⟩ := DataW.trod_int uInt t2
      obtain ⟨n3, e3, _⟩ := DataW.trod_int uInt t3
      obtain ⟨n4, e4, _⟩ := DataW.trod_int uInt t4
      obtain ⟨n5, e5, _⟩ := DataW.trod_string uStr t5
      simp only [List.cons.injEq, and_true] at e0 e1 e2 e3 e4 e5
      subst e0; subst e1; subst e2; subst e3; subst e4; subst e5
      refine ⟨⟨n0, n1, n2, n3, n4, n5⟩, fun j hj => ?_⟩
      rcases (by omega : j = 0 ∨ j = 1 ∨ j = 2 ∨ j = 3 ∨ j = 4 ∨ j = 5) with rfl | rfl | rfl | rfl | rfl | rfl
      · exact c0
      · exact c1
      · exact c2
      · exact c3
      · exact c4
      · exact c5
    obtain ⟨f, hfe⟩ := choose_lt hev
    refine ⟨_, (List.range len).map f, rfl, some a, cap, by simp, fun i hi => ?_⟩
    have hi' : i < len := by simpa using hi
    have h0 := hfe 0 (by omega) 0 (by omega)
    have hblk := World.block_lt_of_cell? w _ h0
    have hsp := World.cell?_spot h0
    obtain ⟨b, off, spot⟩ := a
    have hspot : spot = none := by simpa [Addr.add] using hsp
    subst hspot
    refine ⟨b, off, rfl, by simpa [Addr.add] using hblk, fun j hj => ?_⟩
    have := hfe i hi' j hj
    rw [add_none, ← Nat.add_assoc] at this
    simpa using this
end Go.Proofs.Ytjgmlnkbplgloaa
