import Derived.Test.YtjgmlnkbplgloaaR13
import Derived.Test.YtjgmlnkbplgloaaQ6
namespace Go.Proofs.Ytjgmlnkbplgloaa
open Go.RowKit
set_option linter.unusedVariables false
set_option linter.unusedSimpArgs false
set_option maxHeartbeats 4000000
set_option maxRecDepth 20000
/-! ### The reference's pair in memory -/
abbrev TPair : TypeId := 72
/-- The memory of a pair; lab tells the blocks apart. -/
structure RQ (base : Nat) (w : World) (bp : Nat) (bb : Bool → Nat) (rs : Bool → RS) (q : Bool → List Ev) (v : Bool → Value) (o ro rt : Bool → Option Nat) (lab : Nat → Nat) : Prop where
  pair : Pt w bp TPair [.pointer (some ⟨bb false, 0, none⟩), .pointer (some ⟨bb true, 0, none⟩), v false, v true]
  row : ∀ i, Row 6 w (v i) (q i).length (evCells (q i)) (o i)
  rm : ∀ i, RM w (bb i) (rs i) (ro i) (rt i)
  l0 : lab bp = 0
  lb : ∀ i : Bool, lab (bb i) = 1 + i.toNat
  lo : ∀ (i : Bool) x, o i = some x → lab x = 3 + i.toNat
  lr : ∀ (i : Bool) x, ro i = some x → lab x = 5 + i.toNat
  lt : ∀ (i : Bool) x, rt i = some x → lab x = 7 + i.toNat
  gp : base ≤ bp
  gb : ∀ i, base ≤ bb i
  go : ∀ (i : Bool) x, o i = some x → base ≤ x
  gr : ∀ (i : Bool) x, ro i = some x → base ≤ x
  gt : ∀ (i : Bool) x, rt i = some x → base ≤ x
section
variable {base : Nat} {w : World} {bp : Nat} {bb : Bool → Nat} {rs : Bool → RS} {q : Bool → List Ev} {v : Bool → Value} {o ro rt : Bool → Option Nat} {lab : Nat → Nat}
theorem tn_ne {i j : Bool} (h : j ≠ i) : j.toNat ≠ i.toNat := by cases i <;> cases j <;> simp_all
theorem tn_lt (i : Bool) : i.toNat ≤ 1 := by cases i <;> decide
theorem RQ.fr0 (h : RQ base w bp bb rs q v o ro rt lab) {w' : World} (f : Fr [] w w') : RQ base w' bp bb rs q v o ro rt lab :=
  { h with pair := f.pt h.pair (by simp), row := fun i => (h.row i).fr f (by simp), rm := fun i => (h.rm i).fr0 f }
theorem RQ.olt (h : RQ base w bp bb rs q v o ro rt lab) (i : Bool) : ∀ x, o i = some x → x < w.heap.size := fun x hx => by have := h.row i; rw [hx] at this; exact this.lt
theorem RQ.rlt (h : RQ base w bp bb rs q v o ro rt lab) (i : Bool) : (∀ x, ro i = some x → x < w.heap.size) ∧ ∀ x, rt i = some x → x < w.heap.size := by
  obtain ⟨_, _, _, h1, h2, _, _⟩ := h.rm i
  exact ⟨fun x hx => by rw [hx] at h1; exact h1.lt, fun x hx => by rw [hx] at h2; exact h2.lt⟩
theorem RQ.plt (h : RQ base w bp bb rs q v o ro rt lab) : bp < w.heap.size := h.pair.lt
theorem RQ.blt (h : RQ base w bp bb rs q v o ro rt lab) (i : Bool) : bb i < w.heap.size := (h.rm i).lt
/-- A side of the pair met an event. -/
theorem RQ.on (h : RQ base w bp bb rs q v o ro rt lab) (i : Bool) {w' : World} {r' : RS} (hr : RN (bb i) (ro i) (rt i) w r' w') :
    (∃ ro' rt' lab', RQ base w' bp bb (upd rs i r') q v o (upd ro i ro') (upd rt i rt') lab') ∧ Below base w w' := by
  obtain ⟨⟨ro', rt', h1, h2, h3⟩, f⟩ := hr
  have hd : ∀ x ∈ bb i :: ((ro i).toList ++ (rt i).toList), lab x = 1 + i.toNat ∨ lab x = 5 + i.toNat ∨ lab x = 7 + i.toNat := fun x hx => by
    simp only [List.mem_cons, List.mem_append, Option.mem_toList] at hx
    rcases hx with hx | hx | hx
    · subst hx; exact .inl (h.lb i)
    · exact .inr (.inl (h.lr i x hx))
    · exact .inr (.inr (h.lt i x hx))
  have ti := tn_lt i
  have hsz := f.size
  have hx12 : ∀ z, ro' = some z → rt' ≠ some z := fun z hz => by
    obtain ⟨_, _, _, _, _, g, _⟩ := h1
    exact (g z hz).2
  refine ⟨⟨ro', rt', fun x => if x < w.heap.size then lab x else if ro' = some x then 5 + i.toNat else 7 + i.toNat, ?_⟩, ?_⟩
  · refine { pair := f.pt h.pair (fun hm => ?_), row := fun j => (h.row j).fr f (fun z hz hm => ?_), rm := fun j => ?_, l0 := ?_, lb := fun j => ?_, lo := fun j x hx => ?_, lr := fun j x hx => ?_, lt := fun j x hx => ?_, gp := h.gp, gb := h.gb, go := h.go, gr := fun j x hx => ?_, gt := fun j x hx => ?_ }
    · have := hd _ hm; have := h.l0; omega
    · have := hd _ hm; have := h.lo j z hz; have := tn_lt j; omega
    · by_cases e : j = i
      · subst e; rw [upd_same, upd_same, upd_same]; exact h1
      · rw [upd_other _ _ _ _ e, upd_other _ _ _ _ e, upd_other _ _ _ _ e]
        have tne := tn_ne e
        have tj := tn_lt j
        refine (h.rm j).fr f ⟨fun hm => ?_, fun z hz hm => ?_, fun z hz hm => ?_⟩
        · have := hd _ hm; have := h.lb j; omega
        · have := hd _ hm; have := h.lr j z hz; omega
        · have := hd _ hm; have := h.lt j z hz; omega
    · rw [if_pos h.plt]; exact h.l0
    · rw [if_pos (h.blt j)]; exact h.lb j
    · rw [if_pos (h.olt j x hx)]; exact h.lo j x hx
    · by_cases e : j = i
      · subst e; rw [upd_same] at hx
        split
        · rename_i hl
          rcases h2 x hx with h4 | h4
          · exact h.lr j x h4
          · omega
        · first | rfl | rw [if_pos hx]
      · rw [upd_other _ _ _ _ e] at hx
        rw [if_pos ((h.rlt j).1 x hx)]; exact h.lr j x hx
    · by_cases e : j = i
      · subst e; rw [upd_same] at hx
        split
        · rename_i hl
          rcases h3 x hx with h4 | h4
          · exact h.lt j x h4
          · omega
        · first | rw [if_neg (fun h4 => hx12 x h4 hx)] | rfl
      · rw [upd_other _ _ _ _ e] at hx
        rw [if_pos ((h.rlt j).2 x hx)]; exact h.lt j x hx
    · by_cases e : j = i
      · subst e; rw [upd_same] at hx
        rcases h2 x hx with h4 | h4
        · exact h.gr j x h4
        · have := h.gp; have := h.plt; omega
      · rw [upd_other _ _ _ _ e] at hx; exact h.gr j x hx
    · by_cases e : j = i
      · subst e; rw [upd_same] at hx
        rcases h3 x hx with h4 | h4
        · exact h.gt j x h4
        · have := h.gp; have := h.plt; omega
      · rw [upd_other _ _ _ _ e] at hx; exact h.gt j x hx
  · refine f.below (by have := h.gp; have := h.plt; omega) (fun x hx => ?_)
    simp only [List.mem_cons, List.mem_append, Option.mem_toList] at hx
    rcases hx with hx | hx | hx
    · rw [hx]; exact h.gb i
    · exact h.gr i x hx
    · exact h.gt i x hx
theorem pair4_set (a b : Value) (v : Bool → Value) (i : Bool) (u : Value) : [a, b, v false, v true].set (2 + i.toNat) u = [a, b, upd v i u false, upd v i u true] := by cases i <;> simp [upd]
theorem pair4_get (a b : Value) (v : Bool → Value) (i : Bool) : [a, b, v false, v true][2 + i.toNat]? = some (v i) := by cases i <;> rfl
/-- One more event on the way to a side. -/
theorem RQ.push (h : RQ base w bp bb rs q v o ro rt lab) (i : Bool) (e : Ev) (hlen : (q i).length < 1000000) {x : Value} (hs : Src Try.prog 6 27 x 1 e.cells w) :
    ∃ oo cc w' o' lab', (Builtin.append_ #[27, 27] 27 #[v i, x]).run Try.prog w = .ok (.slice oo ((q i).length + 1) cc) w' ∧ Fr (o i).toList w w' ∧ Pt w' bp TPair [.pointer (some ⟨bb false, 0, none⟩), .pointer (some ⟨bb true, 0, none⟩), v false, v true] ∧
      RQ base (w'.setCell ⟨bp, 2 + i.toNat, none⟩ (.slice oo ((q i).length + 1) cc)) bp bb rs (upd q i (q i ++ [e])) (upd v i (.slice oo ((q i).length + 1) cc)) (upd o i o') ro rt lab' ∧ Below base w (w'.setCell ⟨bp, 2 + i.toNat, none⟩ (.slice oo ((q i).length + 1) cc)) := by
  obtain ⟨v', w', o', hrun, rz, ho', fz⟩ := (h.row i).append (t := 27) (ty := 27) (e := TEv) (i := iEv) (z := zEv) uEvs' infoEv (by kernel_rfl) (by kernel_rfl) (by omega) (by kernel_rfl) (of_decide_eq_true (by kernel_rfl)) hlen hs (by omega) (by omega)
  have hev : (evCells (q i) ++ e.cells) = evCells (q i ++ [e]) := by simp [evCells]
  rw [hev] at rz
  obtain ⟨oo, cc, rfl⟩ := rz.len
  have ti := tn_lt i
  have hd : ∀ x ∈ (o i).toList, lab x = 3 + i.toNat := fun x hx => h.lo i x (by simpa using hx)
  have PW := fz.pt h.pair (fun hm => by have := hd _ hm; have := h.l0; omega)
  obtain ⟨u, hu⟩ : ∃ u, Value.slice oo ((q i).length + 1) cc = u := ⟨_, rfl⟩
  have FS : Fr [bp] w' (w'.setCell ⟨bp, 2 + i.toNat, none⟩ u) := (Fr.refl _ _).setCell (by simp) _
  have FA : Fr (bp :: (o i).toList) w (w'.setCell ⟨bp, 2 + i.toNat, none⟩ u) := (fz.mono (fun x hx => by simp [hx])).trans (FS.mono (by simp))
  have hn : ∀ z, o' = some z → o i = some z ∨ w.heap.size ≤ z := fun z hz => by
    rcases ho' with h1 | h1
    · rw [h1] at hz; exact .inl hz
    · rw [h1] at hz; cases hz; exact .inr (Nat.le_refl _)
  have hob : ∀ z, o' = some z → z ≠ bp := fun z hz e2 => by
    subst e2
    rcases hn _ hz with h1 | h1
    · have := h.lo i _ h1; have := h.l0; omega
    · have := h.plt; omega
  refine ⟨oo, cc, w', o', fun x => if x < w.heap.size then lab x else 3 + i.toNat, hrun, fz, PW, ?_, ?_⟩
  · rw [hu]
    refine { pair := PW.set' (pair4_set _ _ v i u), row := fun j => ?_, rm := fun j => (h.rm j).fr FA ⟨fun hm => ?_, fun z hz hm => ?_, fun z hz hm => ?_⟩, l0 := ?_, lb := fun j => ?_, lo := fun j x hx => ?_, lr := fun j x hx => ?_, lt := fun j x hx => ?_, gp := h.gp, gb := h.gb, go := fun j x hx => ?_, gr := h.gr, gt := h.gt }
    · by_cases ej : j = i
      · subst ej
        rw [upd_same, upd_same, upd_same, ← hu]
        rw [← hu] at FS
        exact rz.fr' (by simp [List.length_append]) FS (fun z hz hm => hob z hz (by simpa using hm))
      · rw [upd_other _ _ _ _ ej, upd_other _ _ _ _ ej, upd_other _ _ _ _ ej]
        have tne := tn_ne ej
        refine (h.row j).fr FA (fun z hz hm => ?_)
        have := h.lo j z hz
        rcases List.mem_cons.mp hm with h1 | h1
        · subst h1; have := h.l0; omega
        · have := hd _ h1; omega
    · have := h.lb j; have := tn_lt j
      rcases List.mem_cons.mp hm with h1 | h1
      · have hl := h.l0; rw [← h1] at hl; omega
      · have := hd _ h1; omega
    · have := h.lr j z hz; have := tn_lt j
      rcases List.mem_cons.mp hm with h1 | h1
      · subst h1; have := h.l0; omega
      · have := hd _ h1; omega
    · have := h.lt j z hz; have := tn_lt j
      rcases List.mem_cons.mp hm with h1 | h1
      · subst h1; have := h.l0; omega
      · have := hd _ h1; omega
    · rw [if_pos h.plt]; exact h.l0
    · rw [if_pos (h.blt j)]; exact h.lb j
    · by_cases ej : j = i
      · subst ej; rw [upd_same] at hx
        split
        · rcases hn x hx with h1 | h1
          · exact h.lo j x h1
          · omega
        · rfl
      · rw [upd_other _ _ _ _ ej] at hx; rw [if_pos (h.olt j x hx)]; exact h.lo j x hx
    · rw [if_pos ((h.rlt j).1 x hx)]; exact h.lr j x hx
    · rw [if_pos ((h.rlt j).2 x hx)]; exact h.lt j x hx
    · by_cases ej : j = i
      · subst ej; rw [upd_same] at hx
        rcases hn x hx with h1 | h1
        · exact h.go j x h1
        · have := h.gp; have := h.plt; omega
      · rw [upd_other _ _ _ _ ej] at hx; exact h.go j x hx
  · rw [hu]
    refine FA.below (by have := h.gp; have := h.plt; omega) (fun x hx => ?_)
    rcases List.mem_cons.mp hx with h1 | h1
    · rw [h1]; exact h.gp
    · exact h.go i x (by simpa using h1)
end
end Go.Proofs.Ytjgmlnkbplgloaa
