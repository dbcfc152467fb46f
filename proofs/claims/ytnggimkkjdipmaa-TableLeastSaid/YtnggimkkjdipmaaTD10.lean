import Derived.Test.YtnggimkkjdipmaaTD7
import Derived.Test.YtnggimkkjdipmaaTD8b
namespace Go.Proofs.Ytnggimkkjdipmaa
open Go.RowKit
set_option linter.unusedVariables false
set_option linter.unusedSimpArgs false
set_option maxHeartbeats 16000000
set_option maxRecDepth 100000
/-! ### A matrix of bools in memory -/
theorem uBools : Try.prog.underlying 102 = some (.slice 4) := by kernel_rfl
theorem uBoolss : Try.prog.underlying 103 = some (.slice 102) := by kernel_rfl
noncomputable def iBo : TypeInfo := (Try.prog.info? 4).getD default
theorem infoBo : Try.prog.info? 4 = some iBo := by kernel_rfl
noncomputable def zBo : Value := iBo.zero.getD (.int .i64 0)
noncomputable def iBos : TypeInfo := (Try.prog.info? 102).getD default
theorem infoBos : Try.prog.info? 102 = some iBos := by kernel_rfl
noncomputable def zBos : Value := iBos.zero.getD (.int .i64 0)
theorem make_bools (n : Int) (w : World) (h0 : 0 ≤ n) (h1 : n ≤ 1000) : (Instr.makeSlice 102 (.int .i64 n) (.int .i64 n)).run Try.prog w = .ok (.slice (some ⟨w.heap.size, 0, none⟩) n.toNat n.toNat) (w.alloc (.cells (List.replicate n.toNat (Value.bool false)).toArray 4)) := by
  rw [run_make (P := Try.prog) w 102 4 iBo zBo uBools infoBo (by kernel_rfl) .i64 .i64 n n h0 (by omega) (by rw [show iBo.bytes = 1 by kernel_rfl]; omega) (by omega)]
  congr 3
  rw [show iBo.size = 1 by kernel_rfl, show zBo.cells = #[.bool false] by kernel_rfl]
  unfold madeCells
  apply Array.ext
  · simp
  · intro i h1 h2
    simp [Nat.mod_one]
def bools (n : Nat) (f : Nat → Bool) : List Value := (List.range n).map fun j => .bool (f j)
theorem bools_get (n : Nat) (f : Nat → Bool) (j : Nat) (h : j < n) : (bools n f)[j]? = some (.bool (f j)) := by simp [bools, h]
theorem bools_len (n : Nat) (f : Nat → Bool) : (bools n f).length = n := by simp [bools]
theorem bools_zero (n : Nat) : List.replicate n (Value.bool false) = bools n (fun _ => false) := by
  apply List.ext_getElem
  · simp [bools]
  · intro i h1 h2; simp [bools]
theorem bools_set (n : Nat) (f : Nat → Bool) (b : Nat) (x : Bool) : (bools n f).set b (.bool x) = bools n (fun j => if j = b then x else f j) := by
  apply List.ext_getElem
  · simp [bools]
  · intro i h1 h2
    simp only [bools, List.getElem_set, List.getElem_map, List.getElem_range]
    by_cases h : b = i
    · subst h; simp
    · have h' : ¬ i = b := fun e => h e.symm
      rw [if_neg h, if_neg h']
def rowVals (k nb : Nat) (bs : Nat → Nat) : List Value := (List.range k).map fun r => .slice (some ⟨bs r, 0, none⟩) nb nb
/-- A matrix whose rows lie in blocks of their own. -/
structure MtI (B0 k nb : Nat) (wr : World) (v : Value) (bo : Option Nat) (bs : Nat → Nat) (M : Nat → Nat → Bool) : Prop where
  row : Row 1 wr v k (rowVals k nb bs) bo
  cell : ∀ r, r < k → Pt wr (bs r) 4 (bools nb (M r))
  inj : ∀ r r', r < k → r' < k → bs r = bs r' → r = r'
  nbo : ∀ r, r < k → bs r ∉ bo.toList
  low : ∀ r, r < k → B0 ≤ bs r
  lob : ∀ z, bo = some z → B0 ≤ z
theorem MtI.frz {B0 k nb : Nat} {wr : World} {v : Value} {bo : Option Nat} {bs : Nat → Nat} {M : Nat → Nat → Bool} (h : MtI B0 k nb wr v bo bs M) {ex : List Nat} {W : World} (f : Fr ex wr W) (hx : ∀ x ∈ ex, x < B0) : MtI B0 k nb W v bo bs M :=
  ⟨h.row.fr f (fun z hz hm => by have := h.lob z hz; have := hx z hm; omega), fun r hr => f.pt (h.cell r hr) (fun hm => by have := h.low r hr; have := hx _ hm; omega), h.inj, h.nbo, h.low, h.lob⟩
theorem MtI.nil (B0 nb : Nat) (w : World) (M : Nat → Nat → Bool) (bs : Nat → Nat) : MtI B0 0 nb w (.slice none 0 0) none bs M :=
  ⟨Row.nil 1 w none, fun r hr => by omega, fun r r' hr => by omega, fun r hr => by omega, fun r hr => by omega, fun z hz => by cases hz⟩
/-- One row more, all false. -/
theorem MtI.add {B0 k nb : Nat} {wr : World} {v : Value} {bo : Option Nat} {bs : Nat → Nat} (h : MtI B0 k nb wr v bo bs (fun _ _ => false)) (hk : k < 100000) (hB : B0 ≤ wr.heap.size) {W : World} (f : Fr [] wr W) (z : Nat) (hz : wr.heap.size ≤ z) (hp : Pt W z 4 (bools nb fun _ => false)) :
    ∃ v' w9 bo' bs', (Builtin.append_ #[103, 103] 103 #[v, .slice (some ⟨W.heap.size, 0, none⟩) 1 1]).run Try.prog (W.alloc (.cells #[.slice (some ⟨z, 0, none⟩) nb nb] 102)) = .ok v' w9 ∧
      MtI B0 (k + 1) nb w9 v' bo' bs' (fun _ _ => false) ∧ Fr bo.toList wr w9 := by
  have s1 := f.size
  have fa : Fr [] W (W.alloc (.cells #[.slice (some ⟨z, 0, none⟩) nb nb] 102)) := (Fr.refl [] W).alloc _
  have P1 := Pt.newA W 102 #[.slice (some ⟨z, 0, none⟩) nb nb]
  have hr1 := (h.row.fr f (by simp)).fr fa (by simp)
  have hsrc : Src Try.prog 1 103 (.slice (some ⟨W.heap.size, 0, none⟩) 1 1) 1 [.slice (some ⟨z, 0, none⟩) nb nb] (W.alloc (.cells #[.slice (some ⟨z, 0, none⟩) nb nb] 102)) :=
    Src.ofSlice _ uBoolss ⟨W.heap.size, 0, none⟩ 1 1 _ rfl (fun j u hu => by rw [Addr.add_lit, P1.cell, Nat.zero_add]; exact hu) (by intro u hu; simp at hu; subst hu; rfl)
  obtain ⟨v', w9, bo', hrun, hr, hb, hf⟩ := hr1.append (t := 103) (ty := 103) (e := 102) (i := iBos) (z := zBos) uBoolss infoBos (by kernel_rfl) (by kernel_rfl) (by omega) (by kernel_rfl) (of_decide_eq_true (by kernel_rfl)) (by omega) hsrc (by omega) (by omega)
  have lz := hp.lt
  have hlt : ∀ r, r < k → bs r < wr.heap.size := fun r hr => (h.cell r hr).lt
  have hbo : ∀ z', bo = some z' → z' < wr.heap.size := fun z' hz' => by have h3 := h.row; rw [hz'] at h3; exact h3.lt
  have key : ∀ b, b < W.heap.size → (b ∉ bo.toList) → b ∉ bo'.toList := fun b hb1 hb2 hm => by
    rcases hb with e | e
    · rw [e] at hm; exact hb2 hm
    · rw [e] at hm; simp at hm; omega
  have zbo : z ∉ bo.toList := fun hm => by have := hbo z (by simpa using hm); omega
  refine ⟨v', w9, bo', fun r => if r = k then z else bs r, hrun, ⟨?_, fun r hr => ?_, fun r r' h1 h2 he => ?_, fun r hr => ?_, fun r hr => ?_, fun z' hz' => ?_⟩, ?_⟩
  · have : rowVals (k + 1) nb (fun r => if r = k then z else bs r) = rowVals k nb bs ++ [.slice (some ⟨z, 0, none⟩) nb nb] := by
      unfold rowVals
      rw [List.range_succ, List.map_append]
      congr 1
      · refine List.map_congr_left fun r hr => ?_
        have : r ≠ k := by have := List.mem_range.mp hr; omega
        dsimp only
        rw [if_neg this]
      · simp
    rw [this]; exact hr
  · by_cases e : r = k
    · rw [if_pos e]; exact hf.pt (fa.pt hp (by simp)) zbo
    · rw [if_neg e]
      exact hf.pt (fa.pt (f.pt (h.cell r (by omega)) (by simp)) (by simp)) (h.nbo r (by omega))
  · by_cases e : r = k <;> by_cases e' : r' = k
    · omega
    · rw [if_pos e, if_neg e'] at he; have := hlt r' (by omega); omega
    · rw [if_neg e, if_pos e'] at he; have := hlt r (by omega); omega
    · rw [if_neg e, if_neg e'] at he; exact h.inj r r' (by omega) (by omega) he
  · by_cases e : r = k
    · rw [if_pos e]; exact key z lz zbo
    · rw [if_neg e]; exact key _ (by have := hlt r (by omega); omega) (h.nbo r (by omega))
  · by_cases e : r = k
    · rw [if_pos e]; omega
    · rw [if_neg e]; exact h.low r (by omega)
  · rcases hb with e | e
    · exact h.lob z' (by rw [← e]; exact hz')
    · rw [e] at hz'; cases hz'; have := fa.size; omega
  · exact ((f.trans fa).mono (by simp)).trans hf
/-- A cell, read. -/
theorem MtI.get {B0 k nb : Nat} {wr : World} {v : Value} {bo : Option Nat} {bs : Nat → Nat} {M : Nat → Nat → Bool} (h : MtI B0 k nb wr v bo bs M) (a : Nat) (ha : a < k) :
    ∃ bq oq cq, v = .slice (some ⟨bq, oq, none⟩) k cq ∧ bq < wr.heap.size ∧ wr.cell? ⟨bq, oq + a, none⟩ = some (.slice (some ⟨bs a, 0, none⟩) nb nb) ∧ ∀ b, b < nb → wr.cell? ⟨bs a, b, none⟩ = some (.bool (M a b)) := by
  rcases h.row with ⟨_, h2, _⟩ | ⟨b, off, cap, hb, e, h3, h4, _, _, h7⟩
  · omega
  · refine ⟨b, off, cap, e, h4, ?_, fun c hc => ?_⟩
    · rw [h7 a (by omega)]; simp [rowVals, ha]
    · rw [(h.cell a ha).cell, bools_get _ _ _ hc]
/-- A cell, set. -/
theorem MtI.put {B0 k nb : Nat} {wr : World} {v : Value} {bo : Option Nat} {bs : Nat → Nat} {M : Nat → Nat → Bool} (h : MtI B0 k nb wr v bo bs M) (a b : Nat) (ha : a < k) :
    MtI B0 k nb (wr.setCell ⟨bs a, b, none⟩ (.bool true)) v bo bs (fun r c => if r = a ∧ c = b then true else M r c) ∧ Fr [bs a] wr (wr.setCell ⟨bs a, b, none⟩ (.bool true)) := by
  have f : Fr [bs a] wr (wr.setCell ⟨bs a, b, none⟩ (.bool true)) := (Fr.refl _ wr).setCell (.inl (by simp)) _
  refine ⟨⟨h.row.fr f (fun z hz hm => ?_), fun r hr => ?_, h.inj, h.nbo, h.low, h.lob⟩, f⟩
  · simp at hm; subst hm
    exact h.nbo a ha (by rw [hz]; simp)
  · by_cases e : r = a
    · subst e
      have := (h.cell r hr).set b (.bool true)
      rw [bools_set] at this
      simpa using this
    · have := (h.cell r hr).ne (p := ⟨bs a, b, none⟩) (fun he => e (h.inj r a hr ha he)) (.bool true)
      simpa [e] using this
/-! #### when no entry can be added any more -/
def stepM (T U : Tb) (M : Nat → Nat → Bool) (a b e : Nat) : Bool := diffR (T.at a e) (U.at b e) || (decide (0 ≤ (T.at a e).1) && M (T.at a e).1.toNat (U.at b e).1.toNat)
def SoM (T U : Tb) (M : Nat → Nat → Bool) : Prop := ∀ a b : Nat, (a : Int) < T.st → (b : Int) < U.st → M a b = true → Ap T U a b
def CloM (T U : Tb) (M : Nat → Nat → Bool) (a b : Nat) : Prop := M a b = true ∨ ∀ e : Nat, (e : Int) < T.ev → stepM T U M a b e = false
def prs (na nb : Nat) : List (Nat × Nat) := (List.range na).flatMap fun a => (List.range nb).map fun b => (a, b)
theorem prs_mem (na nb a b : Nat) : (a, b) ∈ prs na nb ↔ a < na ∧ b < nb := by
  unfold prs
  simp
def fals (na nb : Nat) (M : Nat → Nat → Bool) : Nat := (prs na nb).countP fun p => !M p.1 p.2
theorem countP_lt {α : Type} (p q : α → Bool) : ∀ (l : List α) (x : α), (∀ y ∈ l, q y = true → p y = true) → x ∈ l → p x = true → q x = false → l.countP q < l.countP p
  | y :: l, x, h, hx, hp, hq => by
    rw [List.countP_cons, List.countP_cons]
    have hle : l.countP q ≤ l.countP p := List.countP_mono_left (fun z hz hqz => h z (by simp [hz]) hqz)
    rcases List.mem_cons.mp hx with rfl | hx
    · simp [hp, hq]; omega
    · have := countP_lt p q l x (fun z hz => h z (by simp [hz])) hx hp hq
      by_cases hqy : q y = true
      · simp [hqy, h y (by simp) hqy]; omega
      · simp [hqy]; omega
theorem fals_put {na nb a b : Nat} (ha : a < na) (hb : b < nb) {M : Nat → Nat → Bool} (h : M a b = false) : fals na nb (fun r c => if r = a ∧ c = b then true else M r c) < fals na nb M := by
  unfold fals
  refine countP_lt _ _ _ (a, b) (fun y hy hq => ?_) ((prs_mem _ _ _ _).mpr ⟨ha, hb⟩) (by simp [h]) (by simp)
  dsimp only at hq ⊢
  by_cases e : y.1 = a ∧ y.2 = b
  · simp [e] at hq
  · simpa [e] using hq
theorem SoM.put {T U : Tb} (hT : VT T) (hU : VT U) (hev : T.ev = U.ev) {M : Nat → Nat → Bool} (h : SoM T U M) {a b e : Nat} (ha : (a : Int) < T.st) (hb : (b : Int) < U.st) (he : (e : Int) < T.ev) (hs : stepM T U M a b e = true) : SoM T U (fun r c => if r = a ∧ c = b then true else M r c) := by
  intro r c hr hc hm
  dsimp only at hm
  by_cases e' : r = a ∧ c = b
  · obtain ⟨rfl, rfl⟩ := e'
    cases hd : diffR (T.at r e) (U.at c e) with
    | true => exact Ap.here (by omega) he hd
    | false =>
      unfold stepM at hs
      rw [hd, Bool.false_or, Bool.and_eq_true] at hs
      have h0 := of_decide_eq_true hs.1
      have h1 := (diffR_sign hd).1
      have r1 := hT.atOk (s := r) (e := e) (by omega) hr (by omega) he
      have r2 := hU.atOk (s := c) (e := e) (by omega) hc (by omega) (by omega)
      have hA := h (T.at r e).1.toNat (U.at c e).1.toNat (by omega) (by omega) hs.2
      rw [Int.toNat_of_nonneg h0, Int.toNat_of_nonneg (by omega)] at hA
      exact Ap.next (by omega) he h0 (by omega) hA
  · rw [if_neg e'] at hm
    exact h r c hr hc hm
/-- Sound and closed: just the pairs that are told apart. -/
theorem ap_iff {T U : Tb} (hT : VT T) (hU : VT U) (hev : T.ev = U.ev) {M : Nat → Nat → Bool} (h : SoM T U M) (hC : ∀ a b : Nat, (a : Int) < T.st → (b : Int) < U.st → CloM T U M a b) (a b : Nat) (ha : (a : Int) < T.st) (hb : (b : Int) < U.st) : M a b = true ↔ Ap T U a b := by
  refine ⟨h a b ha hb, fun hab => ?_⟩
  have key : ∀ x y : Int, Ap T U x y → 0 ≤ x ∧ x < T.st → 0 ≤ y ∧ y < U.st → M x.toNat y.toNat = true := by
    intro x y hxy
    induction hxy with
    | @here x y e h0 h1 hd =>
      intro hx hy
      rcases hC x.toNat y.toNat (by omega) (by omega) with h2 | h2
      · exact h2
      · have := h2 e.toNat (by omega)
        unfold stepM at this
        rw [Int.toNat_of_nonneg hx.1, Int.toNat_of_nonneg hy.1, Int.toNat_of_nonneg h0, hd] at this
        simp at this
    | @next x y e h0 h1 h2 h3 _ ih =>
      intro hx hy
      have r1 := hT.atOk (s := x) (e := e) hx.1 hx.2 h0 h1
      have r2 := hU.atOk (s := y) (e := e) hy.1 hy.2 h0 (by omega)
      have hm := ih ⟨h2, r1.2.1⟩ ⟨h3, r2.2.1⟩
      rcases hC x.toNat y.toNat (by omega) (by omega) with h4 | h4
      · exact h4
      · have := h4 e.toNat (by omega)
        unfold stepM at this
        rw [Int.toNat_of_nonneg hx.1, Int.toNat_of_nonneg hy.1, Int.toNat_of_nonneg h0, hm, decide_eq_true h2] at this
        simp at this
  have := key a b hab ⟨by omega, ha⟩ ⟨by omega, hb⟩
  simpa using this
end Go.Proofs.Ytnggimkkjdipmaa
namespace Go.Proofs.Ytnggimkkjdipmaa
open Go.RowKit
set_option linter.unusedVariables false
set_option linter.unusedSimpArgs false
set_option maxHeartbeats 16000000
set_option maxRecDepth 100000
def Pa (T U : Tb) (na nb : Nat) (M0 : Nat → Nat → Bool) (more : Bool) (M : Nat → Nat → Bool) (a b : Nat) : Prop := SoM T U M ∧ (more = true → fals na nb M < fals na nb M0) ∧ (more = false → M = M0 ∧ (∀ a' b', a' < a → b' < nb → CloM T U M0 a' b') ∧ ∀ b', b' < b → CloM T U M0 a b')
def Pe (T U : Tb) (na nb : Nat) (M0 : Nat → Nat → Bool) (more : Bool) (M : Nat → Nat → Bool) (a b e : Nat) : Prop := Pa T U na nb M0 more M a b ∧ (more = false → M0 a b = true ∨ ∀ e', e' < e → stepM T U M0 a b e' = false)
section
variable {T U : Tb} {na nb a b e : Nat} {M0 M : Nat → Nat → Bool} {more : Bool}
theorem Pa.start (h : SoM T U M0) : Pa T U na nb M0 false M0 0 0 := ⟨h, (fun h => by cases h), fun _ => ⟨rfl, fun _ _ h => by omega, fun _ h => by omega⟩⟩
theorem Pa.row (h : Pa T U na nb M0 more M a nb) : Pa T U na nb M0 more M (a + 1) 0 := ⟨h.1, h.2.1, fun hm => by
  obtain ⟨h1, h2, h3⟩ := h.2.2 hm
  refine ⟨h1, fun a' b' ha hb => ?_, fun _ h => by omega⟩
  by_cases e : a' = a
  · subst e; exact h3 b' hb
  · exact h2 a' b' (by omega) hb⟩
theorem Pe.start (h : Pa T U na nb M0 more M a b) : Pe T U na nb M0 more M a b 0 := ⟨h, fun _ => .inr fun _ h => by omega⟩
theorem Pe.no (h : Pe T U na nb M0 more M a b e) (hs : stepM T U M a b e = false) : Pe T U na nb M0 more M a b (e + 1) := ⟨h.1, fun hm => by
  obtain ⟨h1, _, _⟩ := h.1.2.2 hm
  rcases h.2 hm with h2 | h2
  · exact .inl h2
  · refine .inr fun e' he => ?_
    by_cases e2 : e' = e
    · subst e2; rw [← h1]; exact hs
    · exact h2 e' (by omega)⟩
theorem Pe.yes (hT : VT T) (hU : VT U) (hev : T.ev = U.ev) (h : Pe T U na nb M0 more M a b e) (ha : a < na) (hb : b < nb) (ha' : (a : Int) < T.st) (hb' : (b : Int) < U.st) (he : (e : Int) < T.ev) (hm : M a b = false) (hs : stepM T U M a b e = true) : Pe T U na nb M0 true (fun r c => if r = a ∧ c = b then true else M r c) a b (e + 1) := by
  refine ⟨⟨h.1.1.put hT hU hev ha' hb' he hs, fun _ => ?_, (fun h => by cases h)⟩, (fun h => by cases h)⟩
  have h1 := fals_put ha hb hm
  cases more with
  | true => have := h.1.2.1 rfl; omega
  | false => obtain ⟨h2, _⟩ := h.1.2.2 rfl; rw [h2] at h1 ⊢; exact h1
theorem Pe.done (h : Pe T U na nb M0 more M a b e) (hd : M a b = true ∨ T.ev ≤ (e : Int)) : Pa T U na nb M0 more M a (b + 1) := ⟨h.1.1, h.1.2.1, fun hm => by
  obtain ⟨h1, h2, h3⟩ := h.1.2.2 hm
  refine ⟨h1, h2, fun b' hb => ?_⟩
  by_cases e2 : b' = b
  · subst e2
    rcases h.2 hm with h4 | h4
    · exact .inl h4
    · rcases hd with hd | hd
      · exact .inl (by rw [← h1]; exact hd)
      · exact .inr fun e' he => h4 e' (by omega)
  · exact h3 b' (by omega)⟩
theorem Pa.closed (h : Pa T U na nb M0 false M na 0) : M = M0 ∧ ∀ a b, a < na → b < nb → CloM T U M a b := by
  obtain ⟨h1, h2, _⟩ := h.2.2 rfl
  refine ⟨h1, fun a b ha hb => ?_⟩
  rw [h1]; exact h2 a b ha hb
end
/-- What apart hands back. -/
def ApR (A B : Tb) (w : World) (e : Ending) (w' : World) : Prop := ∃ v bo bs M, e = .returned v ∧ MtI w.heap.size A.st.toNat B.st.toNat w' v bo bs M ∧ (∀ a b : Nat, (a : Int) < A.st → (b : Int) < B.st → (M a b = true ↔ Ap A B a b)) ∧ Fr [] w w'
theorem MtI.lower {B0 B1 k nb : Nat} {wr : World} {v : Value} {bo : Option Nat} {bs : Nat → Nat} {M : Nat → Nat → Bool} (h : MtI B0 k nb wr v bo bs M) (hl : B1 ≤ B0) : MtI B1 k nb wr v bo bs M :=
  ⟨h.row, h.cell, h.inj, h.nbo, fun r hr => by have := h.low r hr; omega, fun z hz => by have := h.lob z hz; omega⟩
theorem rapart_any (A B : Tb) (va vb : Value) (w : World) (hA : TIn w va A) (hB : TIn w vb B) (hVA : VT A) (hVB : VT B) (hev : A.ev = B.ev) :
    Calls Try.prog 62 #[va, vb] w (ApR A B w) := by
  obtain ⟨ra, rfl, hRA⟩ := hA
  obtain ⟨rb, rfl, hRB⟩ := hB
  rw [show A.val ra = .agg #[.int .i64 A.st, .int .i64 A.ev, .int .i64 A.sr, ra] from rfl, show B.val rb = .agg #[.int .i64 B.st, .int .i64 B.ev, .int .i64 B.sr, rb] from rfl]
  obtain ⟨w1, hw1⟩ : ∃ x, w.alloc (.cells #[.int .i64 A.st, .int .i64 A.ev, .int .i64 A.sr, ra] RTab) = x := ⟨_, rfl⟩
  have P1 := Pt.newA w RTab #[.int .i64 A.st, .int .i64 A.ev, .int .i64 A.sr, ra]
  rw [hw1] at P1
  have F1 : Fr [] w w1 := by rw [← hw1]; exact (Fr.refl [] w).alloc _
  obtain ⟨b1, hb1⟩ : ∃ x, w.heap.size = x := ⟨_, rfl⟩
  rw [hb1] at P1
  obtain ⟨w2, hw2⟩ : ∃ x, w1.alloc (.cells #[.int .i64 B.st, .int .i64 B.ev, .int .i64 B.sr, rb] RTab) = x := ⟨_, rfl⟩
  have P2 := Pt.newA w1 RTab #[.int .i64 B.st, .int .i64 B.ev, .int .i64 B.sr, rb]
  rw [hw2] at P2
  have F2 : Fr [] w1 w2 := by rw [← hw2]; exact (Fr.refl [] w1).alloc _
  obtain ⟨b2, hb2⟩ : ∃ x, w1.heap.size = x := ⟨_, rfl⟩
  rw [hb2] at P2
  have Q1 := F2.pt P1 (by simp)
  have FA := F1.trans F2
  have sa := hVA.st; have sb := hVB.st; have ea := hVA.ev
  obtain ⟨oA, capA, rfl, hlA⟩ := hRA
  obtain ⟨oB, capB, rfl, hlB⟩ := hRB
  have bsA := hVA.rows
  have bsB := hVB.rows
  obtain ⟨na, hna⟩ : ∃ n : Nat, A.st.toNat = n := ⟨_, rfl⟩
  obtain ⟨nb, hnb⟩ : ∃ n : Nat, B.st.toNat = n := ⟨_, rfl⟩
  have hnaI : A.st = (na : Int) := by omega
  have hnbI : B.st = (nb : Int) := by omega
  have hn1 : 1 ≤ na := by omega
  have hn2 : na ≤ 30 := by omega
  have hm1 : 1 ≤ nb := by omega
  have hm2 : nb ≤ 30 := by omega
  obtain ⟨B0, hB0⟩ : ∃ x, w2.heap.size = x := ⟨_, rfl⟩
  have lb1 : b1 < B0 := by rw [← hB0]; exact Q1.lt
  have lb2 : b2 < B0 := by rw [← hB0]; exact P2.lt
  have lw : w.heap.size ≤ B0 := by rw [← hB0]; exact FA.size
  have k1 := Q1.cell
  have k2 := P2.cell
  replace hna := Lib.hid hna; replace hnb := Lib.hid hnb; replace hnaI := Lib.hid hnaI; replace hnbI := Lib.hid hnbI; replace hB0 := Lib.hid hB0
  replace hlA := Lib.hid hlA; replace hlB := Lib.hid hlB; replace P1 := Lib.hid P1; replace P2 := Lib.hid P2; replace Q1 := Lib.hid Q1; replace F1 := Lib.hid F1; replace F2 := Lib.hid F2; replace FA := Lib.hid FA; replace hVA := Lib.hid hVA; replace hVB := Lib.hid hVB; replace hev := Lib.hid hev
  go_enter Try.func62, Try.ntmps62
  go_wp2_with fail
  clear k1 k2 hw1 hw2 hb1 hb2
  go_loopg [5, 6] (na + 1) (fun k v5 v6 wr => ∃ (n : Nat) (bo : Option Nat) (bs : Nat → Nat), n ≤ na ∧ k + n = na + 1 ∧ v6 = .int .i64 n ∧ MtI B0 n nb wr v5 bo bs (fun _ _ => false) ∧ Fr [] w2 wr)
  case atStart => exact ⟨0, none, fun _ => 0, by omega, by omega, rfl, MtI.nil _ _ _ _ _, Fr.refl _ _⟩
  case round =>
    obtain ⟨n, bo, bs, hn, hk, rfl, hM, hF⟩ := hrel
    obtain ⟨wo, rfl⟩ : ∃ x : World, x = wr := ⟨_, rfl⟩
    obtain ⟨go, rfl⟩ : ∃ g : Nat, g = gk := ⟨_, rfl⟩
    have kt := (hF.pt Q1.out (by simp)).cell
    have ku := (hF.pt P2.out (by simp)).cell
    by_cases hlt : n < na
    · as_aux_lemma =>
      have hltI : (n : Int) < A.st := by rw [hnaI.out]; omega
      have hmk := make_bools B.st wo (by omega) (by omega)
      rw [hnb.out, bools_zero] at hmk
      obtain ⟨wm, hwm⟩ : ∃ x, wo.alloc (.cells (bools nb fun _ => false).toArray 4) = x := ⟨_, rfl⟩
      have Pm := Pt.new wo 4 (bools nb fun _ => false)
      rw [hwm] at hmk Pm
      have Fm : Fr [] wo wm := by rw [← hwm]; exact (Fr.refl [] wo).alloc _
      obtain ⟨v', w9, bo', bs', happ, hM9, hF9⟩ := hM.add (by omega) (by have := hF.size; have := hB0.out; omega) Fm _ (Nat.le_refl _) Pm
      have F9 : Fr [] w2 w9 := hF.step hF9 (fun z hz => .inr (by have := hM.lob z (by simpa using hz); have := hB0.out; omega))
      replace happ := Lib.hid happ; replace hM9 := Lib.hid hM9; replace hF9 := Lib.hid hF9; replace F9 := Lib.hid F9; replace hM := Lib.hid hM; replace hF := Lib.hid hF; replace Pm := Lib.hid Pm; replace Fm := Lib.hid Fm
      clear hwm
      go_wp2_with (first | (at_builtin; refine wpList_append_run _ rfl _ _ _ rfl rfl rfl happ.out ?_))
      go_roundg (go - 1)
      case measure => omega
      case rel => exact ⟨n + 1, _, _, by omega, by omega, by go_num, hM9.out, F9.out⟩
    · have hltI : ¬ (n : Int) < A.st := by rw [hnaI.out]; omega
      obtain rfl : n = na := by omega
      obtain ⟨bq, oq, cq, rfl, _, _, _⟩ := hM.get 0 (by omega)
      have hS0 : SoM A B (fun _ _ => false) := fun a b _ _ h => by cases h
      replace hM := Lib.hid hM; replace hF := Lib.hid hF; replace hS0 := Lib.hid hS0
      go_wp2_with fail
      clear kt ku
      go_loopg [7] (2 * fals n nb (fun _ _ => false) + 1) (fun k v7 wr => ∃ (more : Bool) (M : Nat → Nat → Bool), v7 = .bool more ∧ k = 2 * fals n nb M + more.toNat ∧ MtI B0 n nb wr (.slice (some ⟨bq, oq, none⟩) n cq) bo bs M ∧ SoM A B M ∧ (more = false → ∀ a b, a < n → b < nb → CloM A B M a b) ∧ Fr [] w2 wr)
      case atStart => exact ⟨true, _, rfl, rfl, hM.out, hS0.out, (fun h => by cases h), hF.out⟩
      case round =>
        obtain ⟨more, M0, rfl, hk1, hM0, hS, hC, hF1⟩ := hrel
        obtain ⟨wp, rfl⟩ : ∃ x : World, x = wr := ⟨_, rfl⟩
        obtain ⟨gp, rfl⟩ : ∃ g : Nat, g = gk := ⟨_, rfl⟩
        cases more
        · as_aux_lemma =>
          have hap := ap_iff hVA.out hVB.out hev.out hS (fun a b ha hb => hC rfl a b (by have := hnaI.out; omega) (by have := hnbI.out; omega))
          have ND : ApR A B w (.returned (.slice (some ⟨bq, oq, none⟩) n cq)) wp := ⟨_, bo, bs, M0, rfl, by rw [hna.out, hnb.out]; exact hM0.lower lw, hap, FA.out.trans hF1⟩
          replace ND := Lib.hid ND; replace hap := Lib.hid hap; replace hC := Lib.hid hC; replace hS := Lib.hid hS; replace hM0 := Lib.hid hM0; replace hF1 := Lib.hid hF1; replace hk1 := Lib.hid hk1
          go_wp2_with fail
          go_ret
          exact ND.out
        · have hk2 : gp = 2 * fals n nb M0 + 1 := hk1
          have hP0 := Pa.start (na := n) (nb := nb) hS
          replace hP0 := Lib.hid hP0; replace hC := Lib.hid hC; replace hS := Lib.hid hS; replace hM0 := Lib.hid hM0; replace hF1 := Lib.hid hF1; replace hk1 := Lib.hid hk1; replace hk2 := Lib.hid hk2
          go_wp2_with fail
          go_loopg [7, 8] (n + 1) (fun k v7 v8 wr => ∃ (a : Nat) (more : Bool) (M : Nat → Nat → Bool), a ≤ n ∧ k + a = n + 1 ∧ v8 = .int .i64 a ∧ v7 = .bool more ∧ Pa A B n nb M0 more M a 0 ∧ MtI B0 n nb wr (.slice (some ⟨bq, oq, none⟩) n cq) bo bs M ∧ Fr [] w2 wr)
          case atStart => exact ⟨0, false, _, by omega, by omega, rfl, rfl, hP0.out, hM0.out, hF1.out⟩
          case round =>
            obtain ⟨a, more, M, ha, hk3, rfl, rfl, hP, hM1, hF2⟩ := hrel
            obtain ⟨wa, rfl⟩ : ∃ x : World, x = wr := ⟨_, rfl⟩
            obtain ⟨ga, rfl⟩ : ∃ g : Nat, g = gk := ⟨_, rfl⟩
            have kt := (hF2.pt Q1.out (by simp)).cell
            by_cases hla : a < n
            · have hlaI : (a : Int) < A.st := by rw [hnaI.out]; omega
              replace hP := Lib.hid hP; replace hM1 := Lib.hid hM1; replace hF2 := Lib.hid hF2
              go_wp2_with fail
              clear kt
              go_loopg [7, 9] (nb + 1) (fun k v7 v9 wr => ∃ (b : Nat) (more : Bool) (M : Nat → Nat → Bool), b ≤ nb ∧ k + b = nb + 1 ∧ v9 = .int .i64 b ∧ v7 = .bool more ∧ Pa A B n nb M0 more M a b ∧ MtI B0 n nb wr (.slice (some ⟨bq, oq, none⟩) n cq) bo bs M ∧ Fr [] w2 wr)
              case atStart => exact ⟨0, _, _, by omega, by omega, rfl, rfl, hP.out, hM1.out, hF2.out⟩
              clear hP hM1 hF2 M more
              case round =>
                obtain ⟨b, more, M, hb, hk4, rfl, rfl, hP, hM1, hF2⟩ := hrel
                obtain ⟨wb, rfl⟩ : ∃ x : World, x = wr := ⟨_, rfl⟩
                obtain ⟨gb, rfl⟩ : ∃ g : Nat, g = gk := ⟨_, rfl⟩
                have ku := (hF2.pt P2.out (by simp)).cell
                by_cases hlb : b < nb
                · have hlbI : (b : Int) < B.st := by rw [hnbI.out]; omega
                  have hE0 := Pe.start hP
                  replace hE0 := Lib.hid hE0; replace hP := Lib.hid hP; replace hM1 := Lib.hid hM1; replace hF2 := Lib.hid hF2
                  go_wp2_with fail
                  clear ku
                  go_loopg [7, 10] 20 (fun k v7 v10 wr => ∃ (j : Nat) (more : Bool) (M : Nat → Nat → Bool), (j : Int) ≤ A.ev ∧ k + j = 20 ∧ v10 = .int .i64 j ∧ v7 = .bool more ∧ Pe A B n nb M0 more M a b j ∧ MtI B0 n nb wr (.slice (some ⟨bq, oq, none⟩) n cq) bo bs M ∧ Fr [] w2 wr)
                  case atStart => exact ⟨0, _, _, by omega, by omega, rfl, rfl, hE0.out, hM1.out, hF2.out⟩
                  clear hE0 hP hM1 hF2 M more
                  case round =>
                    obtain ⟨j, more, M, hj, hk5, rfl, rfl, hE, hM1, hF2⟩ := hrel
                    obtain ⟨w0', rfl⟩ : ∃ x : World, x = wr := ⟨_, rfl⟩
                    obtain ⟨ge, rfl⟩ : ∃ g : Nat, g = gk := ⟨_, rfl⟩
                    have kt := (hF2.pt Q1.out (by simp)).cell
                    obtain ⟨bq', oq', cq', hv', hbq, hg1, hg2⟩ := hM1.get a hla
                    obtain ⟨rfl, rfl, rfl⟩ : bq = bq' ∧ oq = oq' ∧ cq = cq' := by simp at hv'; exact ⟨hv'.1.1, hv'.1.2, hv'.2⟩
                    have hg3 := hg2 b hlb
                    have hlaN : (a : Int) < (n : Int) := by omega
                    have hlbN : (b : Int) < (nb : Int) := by omega
                    clear hv'
                    by_cases hlj : (j : Int) < A.ev
                    · cases hMab : M a b
                      · rw [hMab] at hg3
                        replace hMab := Lib.hid hMab
                        have hsr : a < A.rows.length := by have := hnaI.out; omega
                        have hsrI : (a : Int) < A.rows.length := by omega
                        have htr : b < B.rows.length := by have := hnbI.out; omega
                        have htrI : (b : Int) < B.rows.length := by omega
                        obtain ⟨BB, off, u, rfl, hB, hcB, o2, cap2, rfl, hu⟩ := hlA.out a hsr
                        obtain ⟨BC, off3, u3, rfl, hC', hcC, o3, cap3, rfl, hv⟩ := hlB.out b htr
                        obtain ⟨row, hrow⟩ : ∃ row, A.rows[a] = row := ⟨_, rfl⟩
                        obtain ⟨sow, hsow⟩ : ∃ row, B.rows[b] = row := ⟨_, rfl⟩
                        have hrl2 := hVA.out.row _ (List.getElem_mem hsr)
                        have hcells := hVA.out.cell _ (List.getElem_mem hsr)
                        have hrl3 := hVB.out.row _ (List.getElem_mem htr)
                        have hcells3 := hVB.out.cell _ (List.getElem_mem htr)
                        rw [hrow] at hu hrl2 hcells hcB
                        rw [hsow] at hv hrl3 hcells3 hcC
                        have hltj : j < row.length := by omega
                        have hltS : j < sow.length := by have := hev.out; omega
                        have hltJ : (j : Int) < row.length := by omega
                        have hltSI : (j : Int) < sow.length := by omega
                        obtain ⟨B2, off2, rfl, hB2, ha1, ha2⟩ := hu j hltj
                        obtain ⟨B3, off4, rfl, hB3, hb1, hb2⟩ := hv j hltS
                        have hce := hcells _ (List.getElem_mem hltj)
                        have hcf := hcells3 _ (List.getElem_mem hltS)
                        obtain ⟨⟨x1, x2⟩, hx⟩ : ∃ x, row[j] = x := ⟨_, rfl⟩
                        obtain ⟨⟨y1, y2⟩, hy⟩ : ∃ x, sow[j] = x := ⟨_, rfl⟩
                        rw [hx] at ha1 ha2 hce
                        rw [hy] at hb1 hb2 hcf
                        dsimp only at ha1 ha2 hb1 hb2 hce hcf
                        have hatA : A.at (a : Int) (j : Int) = (x1, x2) := by
                          obtain ⟨_, _, e1⟩ := hVA.out.get (s := (a : Int)) (e := (j : Int)) (by omega) (by have := hnaI.out; omega) (by omega) hlj
                          rw [e1]; simp only [Int.toNat_natCast]; rw [← hx]; subst hrow; rfl
                        have hatB : B.at (b : Int) (j : Int) = (y1, y2) := by
                          obtain ⟨_, _, e1⟩ := hVB.out.get (s := (b : Int)) (e := (j : Int)) (by omega) (by have := hnbI.out; omega) (by omega) (by have := hev.out; omega)
                          rw [e1]; simp only [Int.toNat_natCast]; rw [← hy]; subst hsow; rfl
                        have hFw := FA.out.trans hF2
                        have c1 := hFw.cell (p := ⟨BB, off + a, none⟩) hB (by simp)
                        rw [hcB] at c1
                        have c2 := hFw.cell (p := ⟨BC, off3 + b, none⟩) hC' (by simp)
                        rw [hcC] at c2
                        have c3 := hFw.cell (p := ⟨B2, off2 + j * 2, none⟩) hB2 (by simp)
                        rw [ha1] at c3
                        have c4 := hFw.cell (p := ⟨B2, off2 + j * 2 + 1, none⟩) hB2 (by simp)
                        rw [ha2] at c4
                        have c5 := hFw.cell (p := ⟨B3, off4 + j * 2, none⟩) hB3 (by simp)
                        rw [hb1] at c5
                        have c6 := hFw.cell (p := ⟨B3, off4 + j * 2 + 1, none⟩) hB3 (by simp)
                        rw [hb2] at c6
                        have ku := (hF2.pt P2.out (by simp)).cell
                        have hs2 := hFw.size
                        have l1 : BB < w0'.heap.size := by omega
                        have l2 : BC < w0'.heap.size := by omega
                        have l3 : B2 < w0'.heap.size := by omega
                        have l4 : B3 < w0'.heap.size := by omega
                        have l5 : b1 < w0'.heap.size := (hF2.pt Q1.out (by simp)).lt
                        have l6 : b2 < w0'.heap.size := (hF2.pt P2.out (by simp)).lt
                        obtain ⟨e1, e2, e3, e4, e5⟩ := hce
                        obtain ⟨d1, d2, d3, d4, d5⟩ := hcf
                        have SS : ∀ W, Fr [] w0' W → W.cell? ⟨b1, 3, none⟩ = some (.slice (some ⟨BB, off, none⟩) A.rows.length capA) ∧ W.cell? ⟨b2, 3, none⟩ = some (.slice (some ⟨BC, off3, none⟩) B.rows.length capB) ∧ W.cell? ⟨BB, off + a, none⟩ = some (.slice (some ⟨B2, off2, none⟩) row.length cap2) ∧ W.cell? ⟨BC, off3 + b, none⟩ = some (.slice (some ⟨B3, off4, none⟩) sow.length cap3) ∧ W.cell? ⟨B2, off2 + j * 2, none⟩ = some (.int .i64 x1) ∧ W.cell? ⟨B2, off2 + j * 2 + 1, none⟩ = some (.int .i64 x2) ∧ W.cell? ⟨B3, off4 + j * 2, none⟩ = some (.int .i64 y1) ∧ W.cell? ⟨B3, off4 + j * 2 + 1, none⟩ = some (.int .i64 y2) := fun W f => by
                          refine ⟨?_, ?_, ?_, ?_, ?_, ?_, ?_, ?_⟩
                          · rw [f.cell (p := ⟨b1, 3, none⟩) l5 (by simp), kt]; rfl
                          · rw [f.cell (p := ⟨b2, 3, none⟩) l6 (by simp), ku]; rfl
                          · rw [f.cell (p := ⟨BB, off + a, none⟩) l1 (by simp)]; exact c1
                          · rw [f.cell (p := ⟨BC, off3 + b, none⟩) l2 (by simp)]; exact c2
                          · rw [f.cell (p := ⟨B2, off2 + j * 2, none⟩) l3 (by simp)]; exact c3
                          · rw [f.cell (p := ⟨B2, off2 + j * 2 + 1, none⟩) l3 (by simp)]; exact c4
                          · rw [f.cell (p := ⟨B3, off4 + j * 2, none⟩) l4 (by simp)]; exact c5
                          · rw [f.cell (p := ⟨B3, off4 + j * 2 + 1, none⟩) l4 (by simp)]; exact c6
                        have kt1 : w0'.cell? ⟨b1, 1, none⟩ = some (.int .i64 A.ev) := by rw [kt]; rfl
                        clear ha1 ha2 hb1 hb2 hs2 c1 c2 c3 c4 c5 c6 kt ku l1 l2 l3 l4 l5 l6 hg2 hu hv hcells hcells3 hcB hcC
                        replace SS := Lib.hid SS; replace hx := Lib.hid hx; replace hy := Lib.hid hy; replace hrow := Lib.hid hrow; replace hsow := Lib.hid hsow; replace hatA := Lib.hid hatA; replace hatB := Lib.hid hatB; replace e5 := Lib.hid e5; replace d5 := Lib.hid d5; replace hE := Lib.hid hE; replace hM1 := Lib.hid hM1; replace hF2 := Lib.hid hF2; replace hFw := Lib.hid hFw; replace hrl2 := Lib.hid hrl2; replace hrl3 := Lib.hid hrl3
                        go_upto_region 18 with fail
                        clear kt1 hg1 hg3
                        go_cut [11, 12] from 54 to 69 (fun v14 v15 wx => ∃ bx b3, v14 = .pointer (some ⟨bx, 0, none⟩) ∧ v15 = .pointer (some ⟨b3, 0, none⟩) ∧ Pt wx bx RRow [.int .i64 x1, .int .i64 x2] ∧ Pt wx b3 RRow [.int .i64 y1, .int .i64 y2] ∧ Fr [] w0' wx)
                        case first =>
                          as_aux_lemma =>
                          go_region_held3 (fun W => W.cell? ⟨b1, 3, none⟩ = some (.slice (some ⟨BB, off, none⟩) A.rows.length capA) ∧ W.cell? ⟨b2, 3, none⟩ = some (.slice (some ⟨BC, off3, none⟩) B.rows.length capB) ∧ W.cell? ⟨BB, off + a, none⟩ = some (.slice (some ⟨B2, off2, none⟩) row.length cap2) ∧ W.cell? ⟨BC, off3 + b, none⟩ = some (.slice (some ⟨B3, off4, none⟩) sow.length cap3) ∧ W.cell? ⟨B2, off2 + j * 2, none⟩ = some (.int .i64 x1) ∧ W.cell? ⟨B2, off2 + j * 2 + 1, none⟩ = some (.int .i64 x2) ∧ W.cell? ⟨B3, off4 + j * 2, none⟩ = some (.int .i64 y1) ∧ W.cell? ⟨B3, off4 + j * 2 + 1, none⟩ = some (.int .i64 y2))
                            ((refine SS.out _ ?_; repeat (first | exact Fr.refl _ _ | refine Fr.drew ?_ | refine Fr.alloc ?_ _ | (refine Fr.setCell ?_ (.inr (by simp)) _))))
                            (fail)
                          all_goals
                            go_wp2_with fail
                            go_meet
                            case rel =>
                              first
                              | exact ⟨_, _, rfl, rfl, ((Pt.newA w0' RRow #[.int .i64 x1, .int .i64 x2]).alloc _).drew, (Pt.newAt _ RRow #[.int .i64 y1, .int .i64 y2] (by simp)).drew, (((Fr.refl _ _).alloc _).alloc _).drew⟩
                              | exact ⟨_, _, rfl, rfl, (Pt.newAt _ RRow #[.int .i64 x1, .int .i64 x2] (by simp)).drew, ((Pt.newA w0' RRow #[.int .i64 y1, .int .i64 y2]).alloc _).drew, (((Fr.refl _ _).alloc _).alloc _).drew⟩
                        case rest =>
                          obtain ⟨bx, b3, rfl, rfl, Px, Py, Fx⟩ := hcut
                          clear SS
                          obtain ⟨wx, rfl⟩ : ∃ x : World, x = wc := ⟨_, rfl⟩
                          have hMx := hM1.out.frz Fx (by simp)
                          have kx := Px.cell
                          have ky := Py.cell
                          obtain ⟨st, hst⟩ : ∃ q, stepM A B M a b j = q := ⟨_, rfl⟩
                          have hst2 : (((decide (x1 < 0) != decide (y1 < 0)) || (x2 != y2)) || (decide (0 ≤ x1) && M x1.toNat y1.toNat)) = st := by rw [← hst]; unfold stepM; rw [hatA.out, hatB.out]; rfl
                          replace hMx := Lib.hid hMx; replace Px := Lib.hid Px; replace Py := Lib.hid Py; replace Fx := Lib.hid Fx; replace hst := Lib.hid hst; replace hst2 := Lib.hid hst2
                          go_upto_region 19 with fail
                          go_cut [99] from 70 to 98 (fun v99 wz => v99 = .bool st ∧ Fr [] wx wz)
                          case first =>
                            as_aux_lemma =>
                            obtain ⟨dx, hdx⟩ : ∃ q, decide (x1 < 0) = q := ⟨_, rfl⟩
                            obtain ⟨dy, hdy⟩ : ∃ q, decide (y1 < 0) = q := ⟨_, rfl⟩
                            obtain ⟨dq, hdq⟩ : ∃ q, (x2 == y2) = q := ⟨_, rfl⟩
                            have hdq2 : (x2 != y2) = !dq := by rw [← hdq]; rfl
                            have hst3 := hst2.out
                            rw [hdx, hdy, hdq2] at hst3
                            by_cases hcase : dx = false ∧ dy = false ∧ dq = true
                            · obtain ⟨rfl, rfl, rfl⟩ := hcase
                              have hx1 : ¬ x1 < 0 := of_decide_eq_false hdx
                              have hy1 : ¬ y1 < 0 := of_decide_eq_false hdy
                              obtain ⟨p, rfl⟩ : ∃ p : Nat, x1 = p := ⟨x1.toNat, by omega⟩
                              obtain ⟨q, rfl⟩ : ∃ p : Nat, y1 = p := ⟨y1.toNat, by omega⟩
                              have hpn : p < n := by have := hnaI.out; omega
                              have hqn : q < nb := by have := hnbI.out; omega
                              have hpnI : (p : Int) < (n : Int) := by omega
                              have hqnI : (q : Int) < (nb : Int) := by omega
                              obtain ⟨bq', oq', cq', hv', hbq2, hg4, hg5⟩ := hMx.out.get p hpn
                              obtain ⟨rfl, rfl, rfl⟩ : bq = bq' ∧ oq = oq' ∧ cq = cq' := by simp at hv'; exact ⟨hv'.1.1, hv'.1.2, hv'.2⟩
                              have hg6 := hg5 q hqn
                              have h0p : decide ((0 : Int) ≤ (p : Int)) = true := decide_eq_true (by omega)
                              have hst4 : M p q = st := by
                                rw [h0p] at hst3
                                simpa using hst3
                              rw [hst4] at hg6
                              have hge : (0 : Int) ≤ (p : Int) := by omega
                              have hgq : (0 : Int) ≤ (q : Int) := by omega
                              clear hv' hg5
                              replace hst3 := Lib.hid hst3; replace hst4 := Lib.hid hst4
                              replace hdx := Lib.hid hdx; replace hdy := Lib.hid hdy; replace h0p := Lib.hid h0p
                              simp only [Bool.not_true] at hdq2
                              go_quiet (fail)
                              go_wp2_with fail
                              go_meet
                              case rel => exact ⟨rfl, (Fr.refl _ _).drewN _⟩
                            · by_cases hneg : dx = true ∧ dy = true ∧ dq = true
                              · obtain ⟨rfl, rfl, rfl⟩ := hneg
                                have hx1 : x1 < 0 := of_decide_eq_true hdx
                                have hy1 : y1 < 0 := of_decide_eq_true hdy
                                have hst4 : st = false := by
                                  rw [← hst3, decide_eq_false (by omega)]; rfl
                                have hng : decide (0 ≤ x1) = false := decide_eq_false (by omega)
                                subst hst4
                                replace hst3 := Lib.hid hst3; replace hdx := Lib.hid hdx; replace hdy := Lib.hid hdy
                                simp only [Bool.not_true] at hdq2
                                go_quiet (fail)
                                go_wp2_with fail
                                go_meet
                                case rel => exact ⟨rfl, (Fr.refl _ _).drewN _⟩
                              · have hst4 : st = true := by
                                  rw [← hst3]
                                  cases dx <;> cases dy <;> cases dq <;> simp at hcase hneg ⊢
                                subst hst4
                                replace hst3 := Lib.hid hst3
                                cases dx
                                all_goals
                                  first | have hx1 := of_decide_eq_true hdx | have hx1 := of_decide_eq_false hdx
                                  cases dy
                                  all_goals
                                    first | have hy1 := of_decide_eq_true hdy | have hy1 := of_decide_eq_false hdy
                                    cases dq
                                    all_goals
                                      first
                                      | exact absurd ⟨rfl, rfl, rfl⟩ hcase
                                      | exact absurd ⟨rfl, rfl, rfl⟩ hneg
                                      | (simp only [Bool.not_true, Bool.not_false] at hdq2
                                         go_quiet (fail)
                                         go_wp2_with fail
                                         go_meet
                                         case rel => exact ⟨rfl, (Fr.refl _ _).drewN _⟩)
                          case rest =>
                            obtain ⟨rfl, Fz⟩ := hcut
                            obtain ⟨wz, rfl⟩ : ∃ x : World, x = wc := ⟨_, rfl⟩
                            have hMz := hMx.out.frz Fz (by simp)
                            have F2z := (hF2.out.trans Fx.out).trans Fz
                            clear kx ky
                            cases st
                            · as_aux_lemma =>
                              have hE2 := hE.out.no hst.out
                              replace hE2 := Lib.hid hE2; replace hMz := Lib.hid hMz; replace F2z := Lib.hid F2z; replace Fz := Lib.hid Fz
                              go_wp2_with fail
                              go_roundg (ge - 1)
                              case measure => omega
                              case rel => exact ⟨j + 1, _, _, by omega, by omega, by go_num, rfl, hE2.out, hMz.out, F2z.out⟩
                            · as_aux_lemma =>
                              have hE2 := hE.out.yes hVA.out hVB.out hev.out hla hlb (by have := hnaI.out; omega) (by have := hnbI.out; omega) hlj hMab.out hst.out
                              obtain ⟨bq', oq', cq', hv', hbq2, hg4, hg5⟩ := hMz.get a hla
                              obtain ⟨rfl, rfl, rfl⟩ : bq = bq' ∧ oq = oq' ∧ cq = cq' := by simp at hv'; exact ⟨hv'.1.1, hv'.1.2, hv'.2⟩
                              have hg6 := hg5 b hlb
                              have hfz := (hMz.cell a hla).free b
                              obtain ⟨hM9, hF9⟩ := hMz.put a b hla
                              obtain ⟨w9, hw9⟩ : ∃ x, wz.setCell ⟨bs a, b, none⟩ (.bool true) = x := ⟨_, rfl⟩
                              rw [hw9] at hM9 hF9
                              have F29 := F2z.step hF9 (fun z hz => .inr (by simp at hz; have := hM9.low a hla; have := hB0.out; omega))
                              clear hv' hg5
                              replace hE2 := Lib.hid hE2; replace hMz := Lib.hid hMz; replace F2z := Lib.hid F2z; replace Fz := Lib.hid Fz; replace hM9 := Lib.hid hM9; replace hF9 := Lib.hid hF9; replace F29 := Lib.hid F29
                              go_wp2_with fail
                              go_roundg (ge - 1)
                              case measure => omega
                              case rel => exact ⟨j + 1, true, _, by omega, by omega, by go_num, rfl, hE2.out, hM9.out, F29.out⟩
                      · as_aux_lemma =>
                        rw [hMab] at hg3
                        have hPd := hE.done (.inl hMab)
                        clear hg2
                        replace hMab := Lib.hid hMab; replace hE := Lib.hid hE; replace hM1 := Lib.hid hM1; replace hF2 := Lib.hid hF2; replace hPd := Lib.hid hPd
                        go_wp2_with fail
                        go_roundg (gb - 1)
                        case measure => omega
                        case rel => exact ⟨b + 1, _, _, by omega, by omega, by go_num, rfl, hPd.out, hM1.out, hF2.out⟩
                    · as_aux_lemma =>
                      have hPd := hE.done (.inr (by omega))
                      clear hg2 hg3
                      replace hE := Lib.hid hE; replace hM1 := Lib.hid hM1; replace hF2 := Lib.hid hF2; replace hPd := Lib.hid hPd
                      go_wp2_with fail
                      go_roundg (gb - 1)
                      case measure => omega
                      case rel => exact ⟨b + 1, _, _, by omega, by omega, by go_num, rfl, hPd.out, hM1.out, hF2.out⟩
                · as_aux_lemma =>
                  have hlbI : ¬ (b : Int) < B.st := by rw [hnbI.out]; omega
                  obtain rfl : b = nb := by omega
                  have hP2 := hP.row
                  replace hP2 := Lib.hid hP2; replace hP := Lib.hid hP; replace hM1 := Lib.hid hM1; replace hF2 := Lib.hid hF2
                  go_wp2_with fail
                  go_roundg (ga - 1)
                  case measure => omega
                  case rel => exact ⟨a + 1, _, _, by omega, by omega, by go_num, rfl, hP2.out, hM1.out, hF2.out⟩
            · as_aux_lemma =>
              have hlaI : ¬ (a : Int) < A.st := by rw [hnaI.out]; omega
              obtain rfl : a = n := by omega
              have hmore : 2 * fals a nb M + more.toNat < gp := by
                have := hk2.out
                cases more
                · obtain ⟨h1, _⟩ := hP.closed; rw [h1, this]; simp
                · have := hP.2.1 rfl; simp; omega
              have hcl : more = false → ∀ x y, x < a → y < nb → CloM A B M x y := fun h => by subst h; exact hP.closed.2
              have hSo := hP.1
              replace hcl := Lib.hid hcl; replace hP := Lib.hid hP; replace hM1 := Lib.hid hM1; replace hF2 := Lib.hid hF2; replace hSo := Lib.hid hSo
              go_wp2_with fail
              go_roundg (2 * fals a nb M + more.toNat)
              case measure => exact hmore
              case rel => exact ⟨more, M, rfl, rfl, hM1.out, hSo.out, hcl.out, hF2.out⟩
end Go.Proofs.Ytnggimkkjdipmaa
