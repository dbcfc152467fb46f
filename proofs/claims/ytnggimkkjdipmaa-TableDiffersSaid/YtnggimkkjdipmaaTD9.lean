import Derived.Test.YtnggimkkjdipmaaTD7
import Derived.Test.YtnggimkkjdipmaaTD8b
namespace Go.Proofs.Ytnggimkkjdipmaa
open Go.RowKit
set_option linter.unusedVariables false
set_option linter.unusedSimpArgs false
set_option maxHeartbeats 16000000
set_option maxRecDepth 100000
/-! ### A matrix of bools in memory -/
theorem uBools : Try.prog.underlying 102 = some (.slice 4) := by kernel_rfl
theorem uBoolss : Try.prog.underlying 103 = some (.slice 102) := by kernel_rfl
noncomputable def iBo : TypeInfo := (Try.prog.info? 4).getD default
theorem infoBo : Try.prog.info? 4 = some iBo := by kernel_rfl
noncomputable def zBo : Value := iBo.zero.getD (.int .i64 0)
noncomputable def iBos : TypeInfo := (Try.prog.info? 102).getD default
theorem infoBos : Try.prog.info? 102 = some iBos := by kernel_rfl
noncomputable def zBos : Value := iBos.zero.getD (.int .i64 0)
theorem make_bools (n : Int) (w : World) (h0 : 0 ≤ n) (h1 : n ≤ 1000) : (Instr.makeSlice 102 (.int .i64 n) (.int .i64 n)).run Try.prog w = .ok (.slice (some ⟨w.heap.size, 0, none⟩) n.toNat n.toNat) (w.alloc (.cells (List.replicate n.toNat (Value.bool false)).toArray 4)) := by
  rw [run_make (P := Try.prog) w 102 4 iBo zBo uBools infoBo (by kernel_rfl) .i64 .i64 n n h0 (by omega) (by rw [show iBo.bytes = 1 by kernel_rfl]; omega) (by omega)]
  congr 3
  rw [show iBo.size = 1 by kernel_rfl, show zBo.cells = #[.bool false] by kernel_rfl]
  unfold madeCells
  apply Array.ext
  · simp
  · intro i h1 h2
    simp [Nat.mod_one]
def bools (n : Nat) (f : Nat → Bool) : List Value := (List.range n).map fun j => .bool (f j)
theorem bools_get (n : Nat) (f : Nat → Bool) (j : Nat) (h : j < n) : (bools n f)[j]? = some (.bool (f j)) := by simp [bools, h]
theorem bools_len (n : Nat) (f : Nat → Bool) : (bools n f).length = n := by simp [bools]
theorem bools_zero (n : Nat) : List.replicate n (Value.bool false) = bools n (fun _ => false) := by
  apply List.ext_getElem
  · simp [bools]
  · intro i h1 h2; simp [bools]
theorem bools_set (n : Nat) (f : Nat → Bool) (b : Nat) (x : Bool) : (bools n f).set b (.bool x) = bools n (fun j => if j = b then x else f j) := by
  apply List.ext_getElem
  · simp [bools]
  · intro i h1 h2
    simp only [bools, List.getElem_set, List.getElem_map, List.getElem_range]
    by_cases h : b = i
    · subst h; simp
    · have h' : ¬ i = b := fun e => h e.symm
      rw [if_neg h, if_neg h']
def rowVals (k nb : Nat) (bs : Nat → Nat) : List Value := (List.range k).map fun r => .slice (some ⟨bs r, 0, none⟩) nb nb
/-- A matrix whose rows lie in blocks of their own. -/
structure MtI (B0 k nb : Nat) (wr : World) (v : Value) (bo : Option Nat) (bs : Nat → Nat) (M : Nat → Nat → Bool) : Prop where
  row : Row 1 wr v k (rowVals k nb bs) bo
  cell : ∀ r, r < k → Pt wr (bs r) 4 (bools nb (M r))
  inj : ∀ r r', r < k → r' < k → bs r = bs r' → r = r'
  nbo : ∀ r, r < k → bs r ∉ bo.toList
  low : ∀ r, r < k → B0 ≤ bs r
  lob : ∀ z, bo = some z → B0 ≤ z
theorem MtI.frz {B0 k nb : Nat} {wr : World} {v : Value} {bo : Option Nat} {bs : Nat → Nat} {M : Nat → Nat → Bool} (h : MtI B0 k nb wr v bo bs M) {ex : List Nat} {W : World} (f : Fr ex wr W) (hx : ∀ x ∈ ex, x < B0) : MtI B0 k nb W v bo bs M :=
  ⟨h.row.fr f (fun z hz hm => by have := h.lob z hz; have := hx z hm; omega), fun r hr => f.pt (h.cell r hr) (fun hm => by have := h.low r hr; have := hx _ hm; omega), h.inj, h.nbo, h.low, h.lob⟩
theorem MtI.nil (B0 nb : Nat) (w : World) (M : Nat → Nat → Bool) (bs : Nat → Nat) : MtI B0 0 nb w (.slice none 0 0) none bs M :=
  ⟨Row.nil 1 w none, fun r hr => by omega, fun r r' hr => by omega, fun r hr => by omega, fun r hr => by omega, fun z hz => by cases hz⟩
/-- One row more, all false. -/
theorem MtI.add {B0 k nb : Nat} {wr : World} {v : Value} {bo : Option Nat} {bs : Nat → Nat} (h : MtI B0 k nb wr v bo bs (fun _ _ => false)) (hk : k < 100000) (hB : B0 ≤ wr.heap.size) {W : World} (f : Fr [] wr W) (z : Nat) (hz : wr.heap.size ≤ z) (hp : Pt W z 4 (bools nb fun _ => false)) :
    ∃ v' w9 bo' bs', (Builtin.append_ #[103, 103] 103 #[v, .slice (some ⟨W.heap.size, 0, none⟩) 1 1]).run Try.prog (W.alloc (.cells #[.slice (some ⟨z, 0, none⟩) nb nb] 102)) = .ok v' w9 ∧
      MtI B0 (k + 1) nb w9 v' bo' bs' (fun _ _ => false) ∧ Fr bo.toList wr w9 := by
  have s1 := f.size
  have fa : Fr [] W (W.alloc (.cells #[.slice (some ⟨z, 0, none⟩) nb nb] 102)) := (Fr.refl [] W).alloc _
  have P1 := Pt.newA W 102 #[.slice (some ⟨z, 0, none⟩) nb nb]
  have hr1 := (h.row.fr f (by simp)).fr fa (by simp)
  have hsrc : Src Try.prog 1 103 (.slice (some ⟨W.heap.size, 0, none⟩) 1 1) 1 [.slice (some ⟨z, 0, none⟩) nb nb] (W.alloc (.cells #[.slice (some ⟨z, 0, none⟩) nb nb] 102)) :=
    Src.ofSlice _ uBoolss ⟨W.heap.size, 0, none⟩ 1 1 _ rfl (fun j u hu => by rw [Addr.add_lit, P1.cell, Nat.zero_add]; exact hu) (by intro u hu; simp at hu; subst hu; rfl)
  obtain ⟨v', w9, bo', hrun, hr, hb, hf⟩ := hr1.append (t := 103) (ty := 103) (e := 102) (i := iBos) (z := zBos) uBoolss infoBos (by kernel_rfl) (by kernel_rfl) (by omega) (by kernel_rfl) (of_decide_eq_true (by kernel_rfl)) (by omega) hsrc (by omega) (by omega)
  have lz := hp.lt
  have hlt : ∀ r, r < k → bs r < wr.heap.size := fun r hr => (h.cell r hr).lt
  have hbo : ∀ z', bo = some z' → z' < wr.heap.size := fun z' hz' => by have h3 := h.row; rw [hz'] at h3; exact h3.lt
  have key : ∀ b, b < W.heap.size → (b ∉ bo.toList) → b ∉ bo'.toList := fun b hb1 hb2 hm => by
    rcases hb with e | e
    · rw [e] at hm; exact hb2 hm
    · rw [e] at hm; simp at hm; omega
  have zbo : z ∉ bo.toList := fun hm => by have := hbo z (by simpa using hm); omega
  refine ⟨v', w9, bo', fun r => if r = k then z else bs r, hrun, ⟨?_, fun r hr => ?_, fun r r' h1 h2 he => ?_, fun r hr => ?_, fun r hr => ?_, fun z' hz' => ?_⟩, ?_⟩
  · have : rowVals (k + 1) nb (fun r => if r = k then z else bs r) = rowVals k nb bs ++ [.slice (some ⟨z, 0, none⟩) nb nb] := by
      unfold rowVals
      rw [List.range_succ, List.map_append]
      congr 1
      · refine List.map_congr_left fun r hr => ?_
        have : r ≠ k := by have := List.mem_range.mp hr; omega
        dsimp only
        rw [if_neg this]
      · simp
    rw [this]; exact hr
  · by_cases e : r = k
    · rw [if_pos e]; exact hf.pt (fa.pt hp (by simp)) zbo
    · rw [if_neg e]
      exact hf.pt (fa.pt (f.pt (h.cell r (by omega)) (by simp)) (by simp)) (h.nbo r (by omega))
  · by_cases e : r = k <;> by_cases e' : r' = k
    · omega
    · rw [if_pos e, if_neg e'] at he; have := hlt r' (by omega); omega
    · rw [if_neg e, if_pos e'] at he; have := hlt r (by omega); omega
    · rw [if_neg e, if_neg e'] at he; exact h.inj r r' (by omega) (by omega) he
  · by_cases e : r = k
    · rw [if_pos e]; exact key z lz zbo
    · rw [if_neg e]; exact key _ (by have := hlt r (by omega); omega) (h.nbo r (by omega))
  · by_cases e : r = k
    · rw [if_pos e]; omega
    · rw [if_neg e]; exact h.low r (by omega)
  · rcases hb with e | e
    · exact h.lob z' (by rw [← e]; exact hz')
    · rw [e] at hz'; cases hz'; have := fa.size; omega
  · exact ((f.trans fa).mono (by simp)).trans hf
/-- A cell, read. -/
theorem MtI.get {B0 k nb : Nat} {wr : World} {v : Value} {bo : Option Nat} {bs : Nat → Nat} {M : Nat → Nat → Bool} (h : MtI B0 k nb wr v bo bs M) (a : Nat) (ha : a < k) :
    ∃ bq oq cq, v = .slice (some ⟨bq, oq, none⟩) k cq ∧ bq < wr.heap.size ∧ wr.cell? ⟨bq, oq + a, none⟩ = some (.slice (some ⟨bs a, 0, none⟩) nb nb) ∧ ∀ b, b < nb → wr.cell? ⟨bs a, b, none⟩ = some (.bool (M a b)) := by
  rcases h.row with ⟨_, h2, _⟩ | ⟨b, off, cap, hb, e, h3, h4, _, _, h7⟩
  · omega
  · refine ⟨b, off, cap, e, h4, ?_, fun c hc => ?_⟩
    · rw [h7 a (by omega)]; simp [rowVals, ha]
    · rw [(h.cell a ha).cell, bools_get _ _ _ hc]
/-- A cell, set. -/
theorem MtI.put {B0 k nb : Nat} {wr : World} {v : Value} {bo : Option Nat} {bs : Nat → Nat} {M : Nat → Nat → Bool} (h : MtI B0 k nb wr v bo bs M) (a b : Nat) (ha : a < k) :
    MtI B0 k nb (wr.setCell ⟨bs a, b, none⟩ (.bool true)) v bo bs (fun r c => if r = a ∧ c = b then true else M r c) ∧ Fr [bs a] wr (wr.setCell ⟨bs a, b, none⟩ (.bool true)) := by
  have f : Fr [bs a] wr (wr.setCell ⟨bs a, b, none⟩ (.bool true)) := (Fr.refl _ wr).setCell (.inl (by simp)) _
  refine ⟨⟨h.row.fr f (fun z hz hm => ?_), fun r hr => ?_, h.inj, h.nbo, h.low, h.lob⟩, f⟩
  · simp at hm; subst hm
    exact h.nbo a ha (by rw [hz]; simp)
  · by_cases e : r = a
    · subst e
      have := (h.cell r hr).set b (.bool true)
      rw [bools_set] at this
      simpa using this
    · have := (h.cell r hr).ne (p := ⟨bs a, b, none⟩) (fun he => e (h.inj r a hr ha he)) (.bool true)
      simpa [e] using this
/-! #### when no entry can be added any more -/
def stepM (T U : Tb) (M : Nat → Nat → Bool) (a b e : Nat) : Bool := diffR (T.at a e) (U.at b e) || (decide (0 ≤ (T.at a e).1) && M (T.at a e).1.toNat (U.at b e).1.toNat)
def SoM (T U : Tb) (M : Nat → Nat → Bool) : Prop := ∀ a b : Nat, (a : Int) < T.st → (b : Int) < U.st → M a b = true → Ap T U a b
def CloM (T U : Tb) (M : Nat → Nat → Bool) (a b : Nat) : Prop := M a b = true ∨ ∀ e : Nat, (e : Int) < T.ev → stepM T U M a b e = false
def prs (na nb : Nat) : List (Nat × Nat) := (List.range na).flatMap fun a => (List.range nb).map fun b => (a, b)
theorem prs_mem (na nb a b : Nat) : (a, b) ∈ prs na nb ↔ a < na ∧ b < nb := by
  unfold prs
  simp
def fals (na nb : Nat) (M : Nat → Nat → Bool) : Nat := (prs na nb).countP fun p => !M p.1 p.2
theorem countP_lt {α : Type} (p q : α → Bool) : ∀ (l : List α) (x : α), (∀ y ∈ l, q y = true → p y = true) → x ∈ l → p x = true → q x = false → l.countP q < l.countP p
  | y :: l, x, h, hx, hp, hq => by
    rw [List.countP_cons, List.countP_cons]
    have hle : l.countP q ≤ l.countP p := List.countP_mono_left (fun z hz hqz => h z (by simp [hz]) hqz)
    rcases List.mem_cons.mp hx with rfl | hx
    · simp [hp, hq]; omega
    · have := countP_lt p q l x (fun z hz => h z (by simp [hz])) hx hp hq
      by_cases hqy : q y = true
      · simp [hqy, h y (by simp) hqy]; omega
      · simp [hqy]; omega
theorem fals_put {na nb a b : Nat} (ha : a < na) (hb : b < nb) {M : Nat → Nat → Bool} (h : M a b = false) : fals na nb (fun r c => if r = a ∧ c = b then true else M r c) < fals na nb M := by
  unfold fals
  refine countP_lt _ _ _ (a, b) (fun y hy hq => ?_) ((prs_mem _ _ _ _).mpr ⟨ha, hb⟩) (by simp [h]) (by simp)
  dsimp only at hq ⊢
  by_cases e : y.1 = a ∧ y.2 = b
  · simp [e] at hq
  · simpa [e] using hq
theorem SoM.put {T U : Tb} (hT : VT T) (hU : VT U) (hev : T.ev = U.ev) {M : Nat → Nat → Bool} (h : SoM T U M) {a b e : Nat} (ha : (a : Int) < T.st) (hb : (b : Int) < U.st) (he : (e : Int) < T.ev) (hs : stepM T U M a b e = true) : SoM T U (fun r c => if r = a ∧ c = b then true else M r c) := by
  intro r c hr hc hm
  dsimp only at hm
  by_cases e' : r = a ∧ c = b
  · obtain ⟨rfl, rfl⟩ := e'
    cases hd : diffR (T.at r e) (U.at c e) with
    | true => exact Ap.here (by omega) he hd
    | false =>
      unfold stepM at hs
      rw [hd, Bool.false_or, Bool.and_eq_true] at hs
      have h0 := of_decide_eq_true hs.1
      have h1 := (diffR_sign hd).1
      have r1 := hT.atOk (s := r) (e := e) (by omega) hr (by omega) he
      have r2 := hU.atOk (s := c) (e := e) (by omega) hc (by omega) (by omega)
      have hA := h (T.at r e).1.toNat (U.at c e).1.toNat (by omega) (by omega) hs.2
      rw [Int.toNat_of_nonneg h0, Int.toNat_of_nonneg (by omega)] at hA
      exact Ap.next (by omega) he h0 (by omega) hA
  · rw [if_neg e'] at hm
    exact h r c hr hc hm
/-- Sound and closed: just the pairs that are told apart. -/
theorem ap_iff {T U : Tb} (hT : VT T) (hU : VT U) (hev : T.ev = U.ev) {M : Nat → Nat → Bool} (h : SoM T U M) (hC : ∀ a b : Nat, (a : Int) < T.st → (b : Int) < U.st → CloM T U M a b) (a b : Nat) (ha : (a : Int) < T.st) (hb : (b : Int) < U.st) : M a b = true ↔ Ap T U a b := by
  refine ⟨h a b ha hb, fun hab => ?_⟩
  have key : ∀ x y : Int, Ap T U x y → 0 ≤ x ∧ x < T.st → 0 ≤ y ∧ y < U.st → M x.toNat y.toNat = true := by
    intro x y hxy
    induction hxy with
    | @here x y e h0 h1 hd =>
      intro hx hy
      rcases hC x.toNat y.toNat (by omega) (by omega) with h2 | h2
      · exact h2
      · have := h2 e.toNat (by omega)
        unfold stepM at this
        rw [Int.toNat_of_nonneg hx.1, Int.toNat_of_nonneg hy.1, Int.toNat_of_nonneg h0, hd] at this
        simp at this
    | @next x y e h0 h1 h2 h3 _ ih =>
      intro hx hy
      have r1 := hT.atOk (s := x) (e := e) hx.1 hx.2 h0 h1
      have r2 := hU.atOk (s := y) (e := e) hy.1 hy.2 h0 (by omega)
      have hm := ih ⟨h2, r1.2.1⟩ ⟨h3, r2.2.1⟩
      rcases hC x.toNat y.toNat (by omega) (by omega) with h4 | h4
      · exact h4
      · have := h4 e.toNat (by omega)
        unfold stepM at this
        rw [Int.toNat_of_nonneg hx.1, Int.toNat_of_nonneg hy.1, Int.toNat_of_nonneg h0, hm, decide_eq_true h2] at this
        simp at this
  have := key a b hab ⟨by omega, ha⟩ ⟨by omega, hb⟩
  simpa using this
end Go.Proofs.Ytnggimkkjdipmaa
