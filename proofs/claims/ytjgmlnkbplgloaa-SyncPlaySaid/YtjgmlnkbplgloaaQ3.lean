import Derived.Test.YtjgmlnkbplgloaaQ2
import Derived.Test.YtjgmlnkbplgloaaRow
import Derived.Deep.RegionHeld3
import Derived.Deep.RegionLaw
namespace Go.Proofs.Ytjgmlnkbplgloaa
open Go.RowKit
set_option linter.unusedVariables false
set_option linter.unusedSimpArgs false
set_option maxHeartbeats 4000000
set_option maxRecDepth 20000
/-! ### Two sides and two rows of events in memory -/
def upd {α : Type} (f : Bool → α) (i : Bool) (x : α) : Bool → α := fun j => if j = i then x else f j
theorem upd_same {α : Type} (f : Bool → α) (i : Bool) (x : α) : upd f i x i = x := if_pos rfl
theorem upd_other {α : Type} (f : Bool → α) (i j : Bool) (x : α) (h : j ≠ i) : upd f i x j = f j := if_neg h
theorem upd_self {α : Type} (f : Bool → α) (i : Bool) : upd f i (f i) = f := by funext j; unfold upd; split <;> simp_all
def evCells (l : List Ev) : List Value := l.flatMap Ev.cells
abbrev TSides : TypeId := 26
abbrev TWays : TypeId := 28
/-- The blocks that are written. -/
def xs (bs bw : Nat) (bb : Bool → Nat) (o : Bool → Option Nat) : List Nat := bs :: bw :: bb false :: bb true :: ((o false).toList ++ (o true).toList)
theorem mem_bs {bs bw bb o} : bs ∈ xs bs bw bb o := by simp [xs]
theorem mem_bw {bs bw bb o} : bw ∈ xs bs bw bb o := by simp [xs]
theorem mem_bb {bs bw bb o} (i : Bool) : bb i ∈ xs bs bw bb o := by cases i <;> simp [xs]
theorem mem_o {bs bw bb} {o : Bool → Option Nat} (i : Bool) : ∀ x ∈ (o i).toList, x ∈ xs bs bw bb o := by cases i <;> (intro x hx; simp [xs] at hx ⊢; simp [hx])
theorem SM.av {X : List Nat} {w : World} {b : Nat} {s : SS} (h : SM X w b s) : Av X w b := by obtain ⟨_, _, _, ho, _⟩ := h; exact ho.1
theorem IR.go {X Y : List Nat} {w w' : World} {v : Value} {l : List Int} {x : Nat} (h : IR X w v l x) {ex : List Nat} (hf : Fr ex w w') (hx : ∀ b ∈ ex, b ∈ X) (ha : Av Y w' x) (hY : ∀ y ∈ Y, y ∈ X ∨ w.heap.size ≤ y) : IR Y w' v l x := by
  obtain ⟨h0, o, cap, h1, h2, h3⟩ := h
  refine ⟨ha, o, cap, h1, h2, fun i hi => ?_⟩
  obtain ⟨b, off, e, hb, hbx, hc⟩ := h3 i hi
  exact ⟨b, off, e, Nat.lt_of_lt_of_le hb hf.size, fun hm => by rcases hY b hm with h | h; exact hbx h; omega, by rw [hf.cell (p := ⟨b, off + i, none⟩) hb (fun hm => hbx (hx b hm))]; exact hc⟩
theorem SM.go {X Y : List Nat} {w w' : World} {b : Nat} {s : SS} (h : SM X w b s) {ex : List Nat} (hf : Fr ex w w') (hx : ∀ z ∈ ex, z ∈ X ∧ z ≠ b) (hb : b ∈ Y) (hlt : ∀ y ∈ Y, y < w'.heap.size) (hY : ∀ y ∈ Y, y ∈ X ∨ w.heap.size ≤ y) : SM Y w' b s := by
  obtain ⟨vo, vt, hp, ho, ht⟩ := h
  exact ⟨vo, vt, hf.pt hp (fun hm => (hx b hm).2 rfl), ho.go hf (fun z hz => (hx z hz).1) ⟨hb, hlt⟩ hY, ht.go hf (fun z hz => (hx z hz).1) ⟨hb, hlt⟩ hY⟩
structure QM (base : Nat) (w : World) (bs bw : Nat) (bb : Bool → Nat) (sd : Bool → SS) (q : Bool → List Ev) (v : Bool → Value) (o : Bool → Option Nat) : Prop where
  sides : Pt w bs TSides [.pointer (some ⟨bb false, 0, none⟩), .pointer (some ⟨bb true, 0, none⟩)]
  way : Pt w bw TWays [v false, v true]
  row : ∀ i, Row 6 w (v i) (q i).length (evCells (q i)) (o i)
  sm : ∀ i, SM (xs bs bw bb o) w (bb i) (sd i)
  nd : (xs bs bw bb o).Nodup
  ge : ∀ x ∈ xs bs bw bb o, base ≤ x
section
variable {base : Nat} {w : World} {bs bw : Nat} {bb : Bool → Nat} {sd : Bool → SS} {q : Bool → List Ev} {v : Bool → Value} {o : Bool → Option Nat}
theorem QM.lt (h : QM base w bs bw bb sd q v o) : ∀ x ∈ xs bs bw bb o, x < w.heap.size := (h.sm false).av.2
theorem QM.ne (h : QM base w bs bw bb sd q v o) : bs ≠ bw ∧ (∀ i, bs ≠ bb i ∧ bw ≠ bb i) ∧ bb false ≠ bb true := by
  have := h.nd
  simp only [xs, List.nodup_cons, List.mem_cons, List.mem_append, not_or] at this
  obtain ⟨⟨h1, h2, h3, _⟩, ⟨h4, h5, _⟩, ⟨h6, _⟩, _⟩ := this
  exact ⟨h1, fun i => by cases i <;> exact ⟨by assumption, by assumption⟩, h6⟩
theorem QM.one (h : QM base w bs bw bb sd q v o) (i : Bool) : ∀ x ∈ (o i).toList, x ≠ bs ∧ x ≠ bw ∧ ∀ j, x ≠ bb j := by
  have := h.nd
  simp only [xs, List.nodup_cons, List.mem_cons, List.mem_append, not_or] at this
  obtain ⟨⟨_, h2, h3, h4⟩, ⟨h5, h6, h7⟩, ⟨h8, h9⟩, h10, _⟩ := this
  intro x hx
  cases i
  · exact ⟨fun e => h4.1 (e ▸ hx), fun e => h7.1 (e ▸ hx), fun j e => by cases j; exact h9.1 (e ▸ hx); exact h10.1 (e ▸ hx)⟩
  · exact ⟨fun e => h4.2 (e ▸ hx), fun e => h7.2 (e ▸ hx), fun j e => by cases j; exact h9.2 (e ▸ hx); exact h10.2 (e ▸ hx)⟩
theorem QM.two (h : QM base w bs bw bb sd q v o) (i j : Bool) (hij : i ≠ j) : ∀ x ∈ (o i).toList, x ∉ (o j).toList := by
  have := h.nd
  simp only [xs, List.nodup_cons, List.nodup_append] at this
  obtain ⟨_, _, _, _, _, _, h1⟩ := this
  intro x hx hy
  cases i <;> cases j
  · exact hij rfl
  · exact h1 x hx x hy rfl
  · exact h1 x hy x hx rfl
  · exact hij rfl
theorem QM.fr0 (h : QM base w bs bw bb sd q v o) {w' : World} (f : Fr [] w w') : QM base w' bs bw bb sd q v o :=
  ⟨f.pt h.sides (by simp), f.pt h.way (by simp), fun i => (h.row i).fr f (by simp), fun i => (h.sm i).fr f, h.nd, h.ge⟩
/-- One side met an event. -/
theorem QM.on (h : QM base w bs bw bb sd q v o) (i : Bool) {w' : World} {s' : SS} (hs : SM (xs bs bw bb o) w' (bb i) s') (f : Fr [bb i] w w') : QM base w' bs bw bb (upd sd i s') q v o := by
  have hne := h.ne
  refine ⟨f.pt h.sides (by simp; exact (hne.2.1 i).1), f.pt h.way (by simp; exact (hne.2.1 i).2), fun j => (h.row j).fr f (fun z hz hm => (h.one j z (by simp [hz])).2.2 i (by simpa using hm)), fun j => ?_, h.nd, h.ge⟩
  by_cases e : j = i
  · subst e; rw [upd_same]; exact hs
  · rw [upd_other _ _ _ _ e]
    refine (h.sm j).go f (fun z hz => ?_) (mem_bb j) (fun y hy => Nat.lt_of_lt_of_le (h.lt y hy) f.size) (fun y hy => .inl hy)
    rw [List.mem_singleton.mp hz]
    refine ⟨mem_bb i, fun e2 => ?_⟩
    cases i <;> cases j
    · exact e rfl
    · exact hne.2.2 e2
    · exact hne.2.2 e2.symm
    · exact e rfl
theorem QM.below (h : QM base w bs bw bb sd q v o) {ex : List Nat} {w' : World} (f : Fr ex w w') (hx : ∀ x ∈ ex, x ∈ xs bs bw bb o) : Below base w w' :=
  f.below (by have := h.ge bs mem_bs; have := h.lt bs mem_bs; omega) (fun x hm => h.ge x (hx x hm))
theorem nodup_new {n : Nat} (i : Bool) (h : (xs bs bw bb o).Nodup) (hl : ∀ x ∈ xs bs bw bb o, x < n) : (xs bs bw bb (upd o i (some n))).Nodup := by
  have e0 : ∀ z, o false = some z → z < n := fun z hz => hl z (mem_o false z (by simp [hz]))
  have e1 : ∀ z, o true = some z → z < n := fun z hz => hl z (mem_o true z (by simp [hz]))
  have k1 := hl bs mem_bs
  have k2 := hl bw mem_bw
  have k3 := hl (bb false) (mem_bb false)
  have k4 := hl (bb true) (mem_bb true)
  clear hl
  cases h0 : o false <;> cases h1 : o true <;> cases i <;> simp_all [xs, upd] <;> omega
theorem nodup_less {n : Option Nat} (i : Bool) (h : (xs bs bw bb o).Nodup) (hn : n = o i ∨ n = none) : (xs bs bw bb (upd o i n)).Nodup := by
  rcases hn with rfl | rfl
  · rw [upd_self]; exact h
  · cases h0 : o false <;> cases h1 : o true <;> cases i <;> simp_all [xs, upd]
theorem mem_upd {n : Option Nat} (i : Bool) : ∀ y ∈ xs bs bw bb (upd o i n), y ∈ xs bs bw bb o ∨ n = some y := by
  intro y hy
  simp only [xs, List.mem_cons, List.mem_append, Option.mem_toList, upd] at hy ⊢
  rcases hy with h | h | h | h | h | h
  · simp [h]
  · simp [h]
  · simp [h]
  · simp [h]
  · cases i
    · exact .inr (by simpa using h)
    · exact .inl (by simp at h; simp [h])
  · cases i
    · exact .inl (by simp at h; simp [h])
    · exact .inr (by simpa using h)
noncomputable def iEv : TypeInfo := (Try.prog.info? TEv).getD default
theorem infoEv : Try.prog.info? TEv = some iEv := by kernel_rfl
noncomputable def zEv : Value := iEv.zero.getD default
theorem uEvs' : Try.prog.underlying 27 = some (.slice TEv) := by kernel_rfl
theorem pair_set (v : Bool → Value) (i : Bool) (u : Value) : [v false, v true].set i.toNat u = [upd v i u false, upd v i u true] := by cases i <;> simp [upd]
/-- One more event on the way to a side. -/
theorem QM.push (h : QM base w bs bw bb sd q v o) (i : Bool) (e : Ev) (hlen : (q i).length < 1000000) {x : Value} (hs : Src Try.prog 6 27 x 1 e.cells w) :
    ∃ oo cc w' o', (Builtin.append_ #[27, 27] 27 #[v i, x]).run Try.prog w = .ok (.slice oo ((q i).length + 1) cc) w' ∧ Fr (o i).toList w w' ∧ Pt w' bw TWays [v false, v true] ∧
      QM base (w'.setCell ⟨bw, i.toNat, none⟩ (.slice oo ((q i).length + 1) cc)) bs bw bb sd (upd q i (q i ++ [e])) (upd v i (.slice oo ((q i).length + 1) cc)) (upd o i o') ∧ Below base w (w'.setCell ⟨bw, i.toNat, none⟩ (.slice oo ((q i).length + 1) cc)) := by
  obtain ⟨v', w', o', hrun, rz, ho', fz⟩ := (h.row i).append (t := 27) (ty := 27) (e := TEv) (i := iEv) (z := zEv) uEvs' infoEv (by kernel_rfl) (by kernel_rfl) (by omega) (by kernel_rfl) (of_decide_eq_true (by kernel_rfl)) hlen hs (by omega) (by omega)
  have hev : (evCells (q i) ++ e.cells) = evCells (q i ++ [e]) := by simp [evCells]
  rw [hev] at rz
  obtain ⟨oo, cc, rfl⟩ := rz.len
  have hne := h.ne
  have hone := h.one i
  have PW := fz.pt h.way (fun hm => (hone _ hm).2.1 rfl)
  refine ⟨oo, cc, w', o', hrun, fz, PW, ?_⟩
  obtain ⟨u, hu⟩ : ∃ u, Value.slice oo ((q i).length + 1) cc = u := ⟨_, rfl⟩
  rw [hu]
  have FS : Fr [bw] w' (w'.setCell ⟨bw, i.toNat, none⟩ u) := (Fr.refl _ _).setCell (by simp) _
  have FA : Fr (bw :: (o i).toList) w (w'.setCell ⟨bw, i.toNat, none⟩ u) := (fz.mono (fun x hx => by simp [hx])).trans (FS.mono (by simp))
  have hsz : w.heap.size ≤ w'.heap.size := fz.size
  have hsz2 : (w'.setCell ⟨bw, i.toNat, none⟩ u).heap.size = w'.heap.size := by simp [World.setCell]
  have ND : (xs bs bw bb (upd o i o')).Nodup := by
    rcases ho' with h1 | h1
    · rw [h1]; exact nodup_less i h.nd (.inl rfl)
    · rw [h1]; exact nodup_new i h.nd h.lt
  have NEW : ∀ y ∈ xs bs bw bb (upd o i o'), y ∈ xs bs bw bb o ∨ w.heap.size ≤ y := fun y hy => by
    rcases mem_upd i y hy with h1 | h1
    · exact .inl h1
    · rcases ho' with h2 | h2
      · exact .inl (mem_o i y (by rw [← h2, h1]; simp))
      · rw [h2] at h1; cases h1; exact .inr (Nat.le_refl _)
  have LT : ∀ y ∈ xs bs bw bb (upd o i o'), y < (w'.setCell ⟨bw, i.toNat, none⟩ u).heap.size := fun y hy => by
    rw [hsz2]
    rcases mem_upd i y hy with h1 | h1
    · exact Nat.lt_of_lt_of_le (h.lt y h1) hsz
    · subst h1; exact rz.lt
  have hbs : bs ≠ bw := hne.1
  refine ⟨⟨FS.pt (fz.pt h.sides (fun hm => (hone _ hm).1 rfl)) (by simp; exact hbs), PW.set' (pair_set v i u), fun j => ?_, fun j => (h.sm j).go FA (fun z hz => ?_) (mem_bb j) LT NEW, ND, fun y hy => ?_⟩, h.below FA (fun x hx => ?_)⟩
  · by_cases ej : j = i
    · subst ej
      rw [upd_same, upd_same, upd_same, ← hu]
      rw [← hu] at FS
      refine rz.fr' (by simp [List.length_append]) FS (fun z hz hm => ?_)
      have hzb : z = bw := by simpa using hm
      rcases ho' with h1 | h1
      · exact (hone z (by rw [← h1, hz]; simp)).2.1 hzb
      · rw [h1] at hz; cases hz
        have := h.lt bw mem_bw
        omega
    · rw [upd_other _ _ _ _ ej, upd_other _ _ _ _ ej, upd_other _ _ _ _ ej]
      refine ((h.row j).fr fz (fun z hz hm => h.two j i ej z (by simp [hz]) hm)).fr FS (fun z hz hm => ?_)
      exact (h.one j z (by simp [hz])).2.1 (by simpa using hm)
  · rcases List.mem_cons.mp hz with h1 | h1
    · rw [h1]; exact ⟨mem_bw, (hne.2.1 j).2⟩
    · exact ⟨mem_o i z h1, (hone z h1).2.2 j⟩
  · rcases NEW y hy with h1 | h1
    · exact h.ge y h1
    · have := h.ge bw mem_bw; have := h.lt bw mem_bw; omega
  · rcases List.mem_cons.mp hx with h1 | h1
    · rw [h1]; exact mem_bw
    · exact mem_o i x h1
/-- The first event on the way to a side is taken. -/
theorem QM.pop (h : QM base w bs bw bb sd q v o) (i : Bool) {e : Ev} {t : List Ev} (hq : q i = e :: t) :
    ∃ b off cap, v i = .slice (some ⟨b, off, none⟩) (t.length + 1) cap ∧ t.length + 1 ≤ cap ∧ b < w.heap.size ∧ b ≠ bw ∧ (∀ j, j < 6 → w.cell? ⟨b, off + j, none⟩ = e.cells[j]?) ∧
      ∀ w', Fr [] w w' → ∀ u, u = (if cap = 1 then Value.slice (some ⟨b, off, none⟩) t.length 0 else .slice (some ⟨b, off + 6, none⟩) t.length (cap - 1)) →
        (∃ o', QM base (w'.setCell ⟨bw, i.toNat, none⟩ u) bs bw bb sd (upd q i t) (upd v i u) o') ∧ Below base w (w'.setCell ⟨bw, i.toNat, none⟩ u) := by
  have hr := h.row i
  rw [hq] at hr
  have hone := h.one i
  rcases hr with ⟨_, h2, _⟩ | ⟨b, off, cap, hb, hv, h3, h4, h5, h6, h7⟩
  · simp at h2
  refine ⟨b, off, cap, hv, h3, h4, fun e2 => (hone b (by simp [hb])).2.1 e2, fun j hj => ?_, fun w' f u hu => ?_⟩
  · rw [h7 j (by simp; omega)]
    show (e.cells ++ evCells t)[j]? = _
    rw [List.getElem?_append_left (show j < 6 from hj)]
  have HQ := h.fr0 f
  have FS : Fr [bw] w' (w'.setCell ⟨bw, i.toNat, none⟩ u) := (Fr.refl _ _).setCell (by simp) _
  have hne := h.ne
  have hcl : (evCells (e :: t)).length = 6 + (evCells t).length := by show (e.cells ++ evCells t).length = _; rw [List.length_append]; rfl
  have RR : ∃ o', Row 6 w' u t.length (evCells t) o' ∧ (o' = o i ∨ o' = none) := by
    by_cases hc1 : cap = 1
    · rw [if_pos hc1] at hu
      have hr0 : t = [] := by cases t with | nil => rfl | cons _ _ => simp at h3; omega
      subst hr0
      rw [hu]
      exact ⟨none, Row.nil 6 w' _, .inr rfl⟩
    · rw [if_neg hc1] at hu
      refine ⟨some b, .inr ⟨b, off + 6, cap - 1, rfl, hu, by simp at h3; omega, Nat.lt_of_lt_of_le h4 f.size, ?_, fun j hj => ?_, fun j hj => ?_⟩, .inl hb.symm⟩
      · simp only [List.length_cons] at h5; omega
      · rw [f.cell (p := ⟨b, off + 6 + j, none⟩) h4 (by simp), f.frozen (p := ⟨b, off + 6 + j, none⟩) h4 (by simp), Nat.add_assoc]; exact h6 _ (by omega)
      · rw [f.cell (p := ⟨b, off + 6 + j, none⟩) h4 (by simp), Nat.add_assoc, h7 _ (by simp only [List.length_cons]; omega)]
        show (e.cells ++ evCells t)[6 + j]? = _
        rw [List.getElem?_append_right (show 6 ≤ 6 + j by omega)]
        congr 1
        show 6 + j - 6 = j
        omega
  obtain ⟨o', hR, ho'⟩ := RR
  have hsub : ∀ x ∈ o'.toList, x ∈ (o i).toList := fun x hx => by
    rcases ho' with h1 | h1
    · rw [← h1]; exact hx
    · rw [h1] at hx; simp at hx
  have NEW : ∀ y ∈ xs bs bw bb (upd o i o'), y ∈ xs bs bw bb o := fun y hy => by
    rcases mem_upd i y hy with h1 | h1
    · exact h1
    · exact mem_o i y (hsub y (by simp [h1]))
  have hsz2 : (w'.setCell ⟨bw, i.toNat, none⟩ u).heap.size = w'.heap.size := by simp [World.setCell]
  refine ⟨⟨upd o i o', FS.pt HQ.sides (by simp; exact hne.1), HQ.way.set' (pair_set v i u), fun j => ?_, fun j => (HQ.sm j).go FS (fun z hz => ?_) (mem_bb j) (fun y hy => by rw [hsz2]; exact HQ.lt y (NEW y hy)) (fun y hy => .inl (NEW y hy)), nodup_less i h.nd ho', fun y hy => h.ge y (NEW y hy)⟩, h.below ((f.mono (by simp)).trans FS) (fun x hx => ?_)⟩
  · by_cases ej : j = i
    · subst ej
      rw [upd_same, upd_same, upd_same]
      exact hR.fr FS (fun z hz hm => (hone z (hsub z (by simp [hz]))).2.1 (by simpa using hm))
    · rw [upd_other _ _ _ _ ej, upd_other _ _ _ _ ej, upd_other _ _ _ _ ej]
      exact (HQ.row j).fr FS (fun z hz hm => (h.one j z (by simp [hz])).2.1 (by simpa using hm))
  · rw [List.mem_singleton.mp hz]; exact ⟨mem_bw, (hne.2.1 j).2⟩
  · rw [List.mem_singleton.mp hx]; exact mem_bw
end
end Go.Proofs.Ytjgmlnkbplgloaa
