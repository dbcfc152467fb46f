import Derived.Test.YtnggimkkjdipmaaTBo
import Derived.Test.YtnggimkkjdipmaaTD7
import Derived.Test.YtnggimkkjdipmaaTD8b
import Derived.Test.YtnggimkkjdipmaaTL11
import Derived.Test.YtnggimkkjdipmaaTL14
namespace Go.Proofs.Ytnggimkkjdipmaa
open Go.RowKit
set_option linter.unusedVariables false
set_option linter.unusedSimpArgs false
set_option maxHeartbeats 16000000
set_option maxRecDepth 100000
/-! ### A matrix of bools in memory -/
def rowVals (k nb : Nat) (bs : Nat → Nat) : List Value := (List.range k).map fun r => .slice (some ⟨bs r, 0, none⟩) nb nb
/-- A matrix whose rows lie in blocks of their own. -/
structure MtI (B0 k nb : Nat) (wr : World) (v : Value) (bo : Option Nat) (bs : Nat → Nat) (M : Nat → Nat → Bool) : Prop where
  row : Row 1 wr v k (rowVals k nb bs) bo
  cell : ∀ r, r < k → Pt wr (bs r) 4 (bools nb (M r))
  inj : ∀ r r', r < k → r' < k → bs r = bs r' → r = r'
  nbo : ∀ r, r < k → bs r ∉ bo.toList
  low : ∀ r, r < k → B0 ≤ bs r
  lob : ∀ z, bo = some z → B0 ≤ z
theorem MtI.frz {B0 k nb : Nat} {wr : World} {v : Value} {bo : Option Nat} {bs : Nat → Nat} {M : Nat → Nat → Bool} (h : MtI B0 k nb wr v bo bs M) {ex : List Nat} {W : World} (f : Fr ex wr W) (hx : ∀ x ∈ ex, x < B0) : MtI B0 k nb W v bo bs M :=
  ⟨h.row.fr f (fun z hz hm => by have := h.lob z hz; have := hx z hm; omega), fun r hr => f.pt (h.cell r hr) (fun hm => by have := h.low r hr; have := hx _ hm; omega), h.inj, h.nbo, h.low, h.lob⟩
theorem MtI.nil (B0 nb : Nat) (w : World) (M : Nat → Nat → Bool) (bs : Nat → Nat) : MtI B0 0 nb w (.slice none 0 0) none bs M :=
  ⟨Row.nil 1 w none, fun r hr => by omega, fun r r' hr => by omega, fun r hr => by omega, fun r hr => by omega, fun z hz => by cases hz⟩
/-- One row more, all false. -/
theorem MtI.add {B0 k nb : Nat} {wr : World} {v : Value} {bo : Option Nat} {bs : Nat → Nat} (h : MtI B0 k nb wr v bo bs (fun _ _ => false)) (hk : k < 100000) (hB : B0 ≤ wr.heap.size) {W : World} (f : Fr [] wr W) (z : Nat) (hz : wr.heap.size ≤ z) (hp : Pt W z 4 (bools nb fun _ => false)) :
    ∃ v' w9 bo' bs', (Builtin.append_ #[103, 103] 103 #[v, .slice (some ⟨W.heap.size, 0, none⟩) 1 1]).run Try.prog (W.alloc (.cells #[.slice (some ⟨z, 0, none⟩) nb nb] 102)) = .ok v' w9 ∧
      MtI B0 (k + 1) nb w9 v' bo' bs' (fun _ _ => false) ∧ Fr bo.toList wr w9 := by
  have s1 := f.size
  have fa : Fr [] W (W.alloc (.cells #[.slice (some ⟨z, 0, none⟩) nb nb] 102)) := (Fr.refl [] W).alloc _
  have P1 := Pt.newA W 102 #[.slice (some ⟨z, 0, none⟩) nb nb]
  have hr1 := (h.row.fr f (by simp)).fr fa (by simp)
  have hsrc : Src Try.prog 1 103 (.slice (some ⟨W.heap.size, 0, none⟩) 1 1) 1 [.slice (some ⟨z, 0, none⟩) nb nb] (W.alloc (.cells #[.slice (some ⟨z, 0, none⟩) nb nb] 102)) :=
    Src.ofSlice _ uBoolss ⟨W.heap.size, 0, none⟩ 1 1 _ rfl (fun j u hu => by rw [Addr.add_lit, P1.cell, Nat.zero_add]; exact hu) (by intro u hu; simp at hu; subst hu; rfl)
  obtain ⟨v', w9, bo', hrun, hr, hb, hf⟩ := hr1.append (t := 103) (ty := 103) (e := 102) (i := iBos) (z := zBos) uBoolss infoBos (by kernel_rfl) (by kernel_rfl) (by omega) (by kernel_rfl) (of_decide_eq_true (by kernel_rfl)) (by omega) hsrc (by omega) (by omega)
  have lz := hp.lt
  have hlt : ∀ r, r < k → bs r < wr.heap.size := fun r hr => (h.cell r hr).lt
  have hbo : ∀ z', bo = some z' → z' < wr.heap.size := fun z' hz' => by have h3 := h.row; rw [hz'] at h3; exact h3.lt
  have key : ∀ b, b < W.heap.size → (b ∉ bo.toList) → b ∉ bo'.toList := fun b hb1 hb2 hm => by
    rcases hb with e | e
    · rw [e] at hm; exact hb2 hm
    · rw [e] at hm; simp at hm; omega
  have zbo : z ∉ bo.toList := fun hm => by have := hbo z (by simpa using hm); omega
  refine ⟨v', w9, bo', fun r => if r = k then z else bs r, hrun, ⟨?_, fun r hr => ?_, fun r r' h1 h2 he => ?_, fun r hr => ?_, fun r hr => ?_, fun z' hz' => ?_⟩, ?_⟩
  · have : rowVals (k + 1) nb (fun r => if r = k then z else bs r) = rowVals k nb bs ++ [.slice (some ⟨z, 0, none⟩) nb nb] := by
      unfold rowVals
      rw [List.range_succ, List.map_append]
      congr 1
      · refine List.map_congr_left fun r hr => ?_
        have : r ≠ k := by have := List.mem_range.mp hr; omega
        dsimp only
        rw [if_neg this]
      · simp
    rw [this]; exact hr
  · by_cases e : r = k
    · rw [if_pos e]; exact hf.pt (fa.pt hp (by simp)) zbo
    · rw [if_neg e]
      exact hf.pt (fa.pt (f.pt (h.cell r (by omega)) (by simp)) (by simp)) (h.nbo r (by omega))
  · by_cases e : r = k <;> by_cases e' : r' = k
    · omega
    · rw [if_pos e, if_neg e'] at he; have := hlt r' (by omega); omega
    · rw [if_neg e, if_pos e'] at he; have := hlt r (by omega); omega
    · rw [if_neg e, if_neg e'] at he; exact h.inj r r' (by omega) (by omega) he
  · by_cases e : r = k
    · rw [if_pos e]; exact key z lz zbo
    · rw [if_neg e]; exact key _ (by have := hlt r (by omega); omega) (h.nbo r (by omega))
  · by_cases e : r = k
    · rw [if_pos e]; omega
    · rw [if_neg e]; exact h.low r (by omega)
  · rcases hb with e | e
    · exact h.lob z' (by rw [← e]; exact hz')
    · rw [e] at hz'; cases hz'; have := fa.size; omega
  · exact ((f.trans fa).mono (by simp)).trans hf
/-- A cell, read. -/
theorem MtI.get {B0 k nb : Nat} {wr : World} {v : Value} {bo : Option Nat} {bs : Nat → Nat} {M : Nat → Nat → Bool} (h : MtI B0 k nb wr v bo bs M) (a : Nat) (ha : a < k) :
    ∃ bq oq cq, v = .slice (some ⟨bq, oq, none⟩) k cq ∧ bq < wr.heap.size ∧ wr.cell? ⟨bq, oq + a, none⟩ = some (.slice (some ⟨bs a, 0, none⟩) nb nb) ∧ ∀ b, b < nb → wr.cell? ⟨bs a, b, none⟩ = some (.bool (M a b)) := by
  rcases h.row with ⟨_, h2, _⟩ | ⟨b, off, cap, hb, e, h3, h4, _, _, h7⟩
  · omega
  · refine ⟨b, off, cap, e, h4, ?_, fun c hc => ?_⟩
    · rw [h7 a (by omega)]; simp [rowVals, ha]
    · rw [(h.cell a ha).cell, bools_get _ _ _ hc]
/-- A cell, set. -/
theorem MtI.put {B0 k nb : Nat} {wr : World} {v : Value} {bo : Option Nat} {bs : Nat → Nat} {M : Nat → Nat → Bool} (h : MtI B0 k nb wr v bo bs M) (a b : Nat) (ha : a < k) :
    MtI B0 k nb (wr.setCell ⟨bs a, b, none⟩ (.bool true)) v bo bs (fun r c => if r = a ∧ c = b then true else M r c) ∧ Fr [bs a] wr (wr.setCell ⟨bs a, b, none⟩ (.bool true)) := by
  have f : Fr [bs a] wr (wr.setCell ⟨bs a, b, none⟩ (.bool true)) := (Fr.refl _ wr).setCell (.inl (by simp)) _
  refine ⟨⟨h.row.fr f (fun z hz hm => ?_), fun r hr => ?_, h.inj, h.nbo, h.low, h.lob⟩, f⟩
  · simp at hm; subst hm
    exact h.nbo a ha (by rw [hz]; simp)
  · by_cases e : r = a
    · subst e
      have := (h.cell r hr).set b (.bool true)
      rw [bools_set] at this
      simpa using this
    · have := (h.cell r hr).ne (p := ⟨bs a, b, none⟩) (fun he => e (h.inj r a hr ha he)) (.bool true)
      simpa [e] using this
/-! #### when no entry can be added any more -/
def stepM (T U : Tb) (M : Nat → Nat → Bool) (a b e : Nat) : Bool := diffR (T.at a e) (U.at b e) || (decide (0 ≤ (T.at a e).1) && M (T.at a e).1.toNat (U.at b e).1.toNat)
def SoM (T U : Tb) (M : Nat → Nat → Bool) : Prop := ∀ a b : Nat, (a : Int) < T.st → (b : Int) < U.st → M a b = true → Ap T U a b
def CloM (T U : Tb) (M : Nat → Nat → Bool) (a b : Nat) : Prop := M a b = true ∨ ∀ e : Nat, (e : Int) < T.ev → stepM T U M a b e = false
def prs (na nb : Nat) : List (Nat × Nat) := (List.range na).flatMap fun a => (List.range nb).map fun b => (a, b)
theorem prs_mem (na nb a b : Nat) : (a, b) ∈ prs na nb ↔ a < na ∧ b < nb := by
  unfold prs
  simp
def fals (na nb : Nat) (M : Nat → Nat → Bool) : Nat := (prs na nb).countP fun p => !M p.1 p.2
theorem countP_lt {α : Type} (p q : α → Bool) : ∀ (l : List α) (x : α), (∀ y ∈ l, q y = true → p y = true) → x ∈ l → p x = true → q x = false → l.countP q < l.countP p
  | y :: l, x, h, hx, hp, hq => by
    rw [List.countP_cons, List.countP_cons]
    have hle : l.countP q ≤ l.countP p := List.countP_mono_left (fun z hz hqz => h z (by simp [hz]) hqz)
    rcases List.mem_cons.mp hx with rfl | hx
    · simp [hp, hq]; omega
    · have := countP_lt p q l x (fun z hz => h z (by simp [hz])) hx hp hq
      by_cases hqy : q y = true
      · simp [hqy, h y (by simp) hqy]; omega
      · simp [hqy]; omega
theorem fals_put {na nb a b : Nat} (ha : a < na) (hb : b < nb) {M : Nat → Nat → Bool} (h : M a b = false) : fals na nb (fun r c => if r = a ∧ c = b then true else M r c) < fals na nb M := by
  unfold fals
  refine countP_lt _ _ _ (a, b) (fun y hy hq => ?_) ((prs_mem _ _ _ _).mpr ⟨ha, hb⟩) (by simp [h]) (by simp)
  dsimp only at hq ⊢
  by_cases e : y.1 = a ∧ y.2 = b
  · simp [e] at hq
  · simpa [e] using hq
theorem SoM.put {T U : Tb} (hT : VT T) (hU : VT U) (hev : T.ev = U.ev) {M : Nat → Nat → Bool} (h : SoM T U M) {a b e : Nat} (ha : (a : Int) < T.st) (hb : (b : Int) < U.st) (he : (e : Int) < T.ev) (hs : stepM T U M a b e = true) : SoM T U (fun r c => if r = a ∧ c = b then true else M r c) := by
  intro r c hr hc hm
  dsimp only at hm
  by_cases e' : r = a ∧ c = b
  · obtain ⟨rfl, rfl⟩ := e'
    cases hd : diffR (T.at r e) (U.at c e) with
    | true => exact Ap.here (by omega) he hd
    | false =>
      unfold stepM at hs
      rw [hd, Bool.false_or, Bool.and_eq_true] at hs
      have h0 := of_decide_eq_true hs.1
      have h1 := (diffR_sign hd).1
      have r1 := hT.atOk (s := r) (e := e) (by omega) hr (by omega) he
      have r2 := hU.atOk (s := c) (e := e) (by omega) hc (by omega) (by omega)
      have hA := h (T.at r e).1.toNat (U.at c e).1.toNat (by omega) (by omega) hs.2
      rw [Int.toNat_of_nonneg h0, Int.toNat_of_nonneg (by omega)] at hA
      exact Ap.next (by omega) he h0 (by omega) hA
  · rw [if_neg e'] at hm
    exact h r c hr hc hm
/-- Sound and closed: just the pairs that are told apart. -/
theorem ap_iff {T U : Tb} (hT : VT T) (hU : VT U) (hev : T.ev = U.ev) {M : Nat → Nat → Bool} (h : SoM T U M) (hC : ∀ a b : Nat, (a : Int) < T.st → (b : Int) < U.st → CloM T U M a b) (a b : Nat) (ha : (a : Int) < T.st) (hb : (b : Int) < U.st) : M a b = true ↔ Ap T U a b := by
  refine ⟨h a b ha hb, fun hab => ?_⟩
  have key : ∀ x y : Int, Ap T U x y → 0 ≤ x ∧ x < T.st → 0 ≤ y ∧ y < U.st → M x.toNat y.toNat = true := by
    intro x y hxy
    induction hxy with
    | @here x y e h0 h1 hd =>
      intro hx hy
      rcases hC x.toNat y.toNat (by omega) (by omega) with h2 | h2
      · exact h2
      · have := h2 e.toNat (by omega)
        unfold stepM at this
        rw [Int.toNat_of_nonneg hx.1, Int.toNat_of_nonneg hy.1, Int.toNat_of_nonneg h0, hd] at this
        simp at this
    | @next x y e h0 h1 h2 h3 _ ih =>
      intro hx hy
      have r1 := hT.atOk (s := x) (e := e) hx.1 hx.2 h0 h1
      have r2 := hU.atOk (s := y) (e := e) hy.1 hy.2 h0 (by omega)
      have hm := ih ⟨h2, r1.2.1⟩ ⟨h3, r2.2.1⟩
      rcases hC x.toNat y.toNat (by omega) (by omega) with h4 | h4
      · exact h4
      · have := h4 e.toNat (by omega)
        unfold stepM at this
        rw [Int.toNat_of_nonneg hx.1, Int.toNat_of_nonneg hy.1, Int.toNat_of_nonneg h0, hm, decide_eq_true h2] at this
        simp at this
  have := key a b hab ⟨by omega, ha⟩ ⟨by omega, hb⟩
  simpa using this
end Go.Proofs.Ytnggimkkjdipmaa
namespace Go.Proofs.Ytnggimkkjdipmaa
open Go.RowKit
set_option linter.unusedVariables false
set_option linter.unusedSimpArgs false
set_option maxHeartbeats 16000000
set_option maxRecDepth 100000
def Pa (T U : Tb) (na nb : Nat) (M0 : Nat → Nat → Bool) (more : Bool) (M : Nat → Nat → Bool) (a b : Nat) : Prop := SoM T U M ∧ (more = true → fals na nb M < fals na nb M0) ∧ (more = false → M = M0 ∧ (∀ a' b', a' < a → b' < nb → CloM T U M0 a' b') ∧ ∀ b', b' < b → CloM T U M0 a b')
def Pe (T U : Tb) (na nb : Nat) (M0 : Nat → Nat → Bool) (more : Bool) (M : Nat → Nat → Bool) (a b e : Nat) : Prop := Pa T U na nb M0 more M a b ∧ (more = false → M0 a b = true ∨ ∀ e', e' < e → stepM T U M0 a b e' = false)
section
variable {T U : Tb} {na nb a b e : Nat} {M0 M : Nat → Nat → Bool} {more : Bool}
theorem Pa.start (h : SoM T U M0) : Pa T U na nb M0 false M0 0 0 := ⟨h, (fun h => by cases h), fun _ => ⟨rfl, fun _ _ h => by omega, fun _ h => by omega⟩⟩
theorem Pa.row (h : Pa T U na nb M0 more M a nb) : Pa T U na nb M0 more M (a + 1) 0 := ⟨h.1, h.2.1, fun hm => by
  obtain ⟨h1, h2, h3⟩ := h.2.2 hm
  refine ⟨h1, fun a' b' ha hb => ?_, fun _ h => by omega⟩
  by_cases e : a' = a
  · subst e; exact h3 b' hb
  · exact h2 a' b' (by omega) hb⟩
theorem Pe.start (h : Pa T U na nb M0 more M a b) : Pe T U na nb M0 more M a b 0 := ⟨h, fun _ => .inr fun _ h => by omega⟩
theorem Pe.no (h : Pe T U na nb M0 more M a b e) (hs : stepM T U M a b e = false) : Pe T U na nb M0 more M a b (e + 1) := ⟨h.1, fun hm => by
  obtain ⟨h1, _, _⟩ := h.1.2.2 hm
  rcases h.2 hm with h2 | h2
  · exact .inl h2
  · refine .inr fun e' he => ?_
    by_cases e2 : e' = e
    · subst e2; rw [← h1]; exact hs
    · exact h2 e' (by omega)⟩
theorem Pe.yes (hT : VT T) (hU : VT U) (hev : T.ev = U.ev) (h : Pe T U na nb M0 more M a b e) (ha : a < na) (hb : b < nb) (ha' : (a : Int) < T.st) (hb' : (b : Int) < U.st) (he : (e : Int) < T.ev) (hm : M a b = false) (hs : stepM T U M a b e = true) : Pe T U na nb M0 true (fun r c => if r = a ∧ c = b then true else M r c) a b (e + 1) := by
  refine ⟨⟨h.1.1.put hT hU hev ha' hb' he hs, fun _ => ?_, (fun h => by cases h)⟩, (fun h => by cases h)⟩
  have h1 := fals_put ha hb hm
  cases more with
  | true => have := h.1.2.1 rfl; omega
  | false => obtain ⟨h2, _⟩ := h.1.2.2 rfl; rw [h2] at h1 ⊢; exact h1
theorem Pe.done (h : Pe T U na nb M0 more M a b e) (hd : M a b = true ∨ T.ev ≤ (e : Int)) : Pa T U na nb M0 more M a (b + 1) := ⟨h.1.1, h.1.2.1, fun hm => by
  obtain ⟨h1, h2, h3⟩ := h.1.2.2 hm
  refine ⟨h1, h2, fun b' hb => ?_⟩
  by_cases e2 : b' = b
  · subst e2
    rcases h.2 hm with h4 | h4
    · exact .inl h4
    · rcases hd with hd | hd
      · exact .inl (by rw [← h1]; exact hd)
      · exact .inr fun e' he => h4 e' (by omega)
  · exact h3 b' (by omega)⟩
theorem Pa.closed (h : Pa T U na nb M0 false M na 0) : M = M0 ∧ ∀ a b, a < na → b < nb → CloM T U M a b := by
  obtain ⟨h1, h2, _⟩ := h.2.2 rfl
  refine ⟨h1, fun a b ha hb => ?_⟩
  rw [h1]; exact h2 a b ha hb
end
/-- What apart hands back. -/
def ApR (A B : Tb) (w : World) (e : Ending) (w' : World) : Prop := ∃ v bo bs M, e = .returned v ∧ MtI w.heap.size A.st.toNat B.st.toNat w' v bo bs M ∧ (∀ a b : Nat, (a : Int) < A.st → (b : Int) < B.st → (M a b = true ↔ Ap A B a b)) ∧ Fr [] w w'
theorem MtI.lower {B0 B1 k nb : Nat} {wr : World} {v : Value} {bo : Option Nat} {bs : Nat → Nat} {M : Nat → Nat → Bool} (h : MtI B0 k nb wr v bo bs M) (hl : B1 ≤ B0) : MtI B1 k nb wr v bo bs M :=
  ⟨h.row, h.cell, h.inj, h.nbo, fun r hr => by have := h.low r hr; omega, fun z hz => by have := h.lob z hz; omega⟩
theorem rapart_any (A B : Tb) (va vb : Value) (w : World) (hA : TIn w va A) (hB : TIn w vb B) (hVA : VT A) (hVB : VT B) (hev : A.ev = B.ev) :
    Calls Try.prog 62 #[va, vb] w (ApR A B w) := by
  obtain ⟨ra, rfl, hRA⟩ := hA
  obtain ⟨rb, rfl, hRB⟩ := hB
  rw [show A.val ra = .agg #[.int .i64 A.st, .int .i64 A.ev, .int .i64 A.sr, ra] from rfl, show B.val rb = .agg #[.int .i64 B.st, .int .i64 B.ev, .int .i64 B.sr, rb] from rfl]
  obtain ⟨w1, hw1⟩ : ∃ x, w.alloc (.cells #[.int .i64 A.st, .int .i64 A.ev, .int .i64 A.sr, ra] RTab) = x := ⟨_, rfl⟩
  have P1 := Pt.newA w RTab #[.int .i64 A.st, .int .i64 A.ev, .int .i64 A.sr, ra]
  rw [hw1] at P1
  have F1 : Fr [] w w1 := by rw [← hw1]; exact (Fr.refl [] w).alloc _
  obtain ⟨b1, hb1⟩ : ∃ x, w.heap.size = x := ⟨_, rfl⟩
  rw [hb1] at P1
  obtain ⟨w2, hw2⟩ : ∃ x, w1.alloc (.cells #[.int .i64 B.st, .int .i64 B.ev, .int .i64 B.sr, rb] RTab) = x := ⟨_, rfl⟩
  have P2 := Pt.newA w1 RTab #[.int .i64 B.st, .int .i64 B.ev, .int .i64 B.sr, rb]
  rw [hw2] at P2
  have F2 : Fr [] w1 w2 := by rw [← hw2]; exact (Fr.refl [] w1).alloc _
  obtain ⟨b2, hb2⟩ : ∃ x, w1.heap.size = x := ⟨_, rfl⟩
  rw [hb2] at P2
  have Q1 := F2.pt P1 (by simp)
  have FA := F1.trans F2
  have sa := hVA.st; have sb := hVB.st; have ea := hVA.ev
  obtain ⟨oA, capA, rfl, hlA⟩ := hRA
  obtain ⟨oB, capB, rfl, hlB⟩ := hRB
  have bsA := hVA.rows
  have bsB := hVB.rows
  obtain ⟨na, hna⟩ : ∃ n : Nat, A.st.toNat = n := ⟨_, rfl⟩
  obtain ⟨nb, hnb⟩ : ∃ n : Nat, B.st.toNat = n := ⟨_, rfl⟩
  have hnaI : A.st = (na : Int) := by omega
  have hnbI : B.st = (nb : Int) := by omega
  have hn1 : 1 ≤ na := by omega
  have hn2 : na ≤ 30 := by omega
  have hm1 : 1 ≤ nb := by omega
  have hm2 : nb ≤ 30 := by omega
  obtain ⟨B0, hB0⟩ : ∃ x, w2.heap.size = x := ⟨_, rfl⟩
  have lb1 : b1 < B0 := by rw [← hB0]; exact Q1.lt
  have lb2 : b2 < B0 := by rw [← hB0]; exact P2.lt
  have lw : w.heap.size ≤ B0 := by rw [← hB0]; exact FA.size
  have k1 := Q1.cell
  have k2 := P2.cell
  replace hna := Lib.hid hna; replace hnb := Lib.hid hnb; replace hnaI := Lib.hid hnaI; replace hnbI := Lib.hid hnbI; replace hB0 := Lib.hid hB0
  replace hlA := Lib.hid hlA; replace hlB := Lib.hid hlB; replace P1 := Lib.hid P1; replace P2 := Lib.hid P2; replace Q1 := Lib.hid Q1; replace F1 := Lib.hid F1; replace F2 := Lib.hid F2; replace FA := Lib.hid FA; replace hVA := Lib.hid hVA; replace hVB := Lib.hid hVB; replace hev := Lib.hid hev
  go_enter Try.func62, Try.ntmps62
  go_wp2_with fail
  clear k1 k2 hw1 hw2 hb1 hb2
  go_loopg [5, 6] (na + 1) (fun k v5 v6 wr => ∃ (n : Nat) (bo : Option Nat) (bs : Nat → Nat), n ≤ na ∧ k + n = na + 1 ∧ v6 = .int .i64 n ∧ MtI B0 n nb wr v5 bo bs (fun _ _ => false) ∧ Fr [] w2 wr)
  case atStart => exact ⟨0, none, fun _ => 0, by omega, by omega, rfl, MtI.nil _ _ _ _ _, Fr.refl _ _⟩
  case round =>
    obtain ⟨n, bo, bs, hn, hk, rfl, hM, hF⟩ := hrel
    obtain ⟨wo, rfl⟩ : ∃ x : World, x = wr := ⟨_, rfl⟩
    obtain ⟨go, rfl⟩ : ∃ g : Nat, g = gk := ⟨_, rfl⟩
    have kt := (hF.pt Q1.out (by simp)).cell
    have ku := (hF.pt P2.out (by simp)).cell
    by_cases hlt : n < na
    · as_aux_lemma =>
      have hltI : (n : Int) < A.st := by rw [hnaI.out]; omega
      have hmk := make_bools B.st wo (by omega) (by omega)
      rw [hnb.out, bools_zero] at hmk
      obtain ⟨wm, hwm⟩ : ∃ x, wo.alloc (.cells (bools nb fun _ => false).toArray 4) = x := ⟨_, rfl⟩
      have Pm := Pt.new wo 4 (bools nb fun _ => false)
      rw [hwm] at hmk Pm
      have Fm : Fr [] wo wm := by rw [← hwm]; exact (Fr.refl [] wo).alloc _
      obtain ⟨v', w9, bo', bs', happ, hM9, hF9⟩ := hM.add (by omega) (by have := hF.size; have := hB0.out; omega) Fm _ (Nat.le_refl _) Pm
      have F9 : Fr [] w2 w9 := hF.step hF9 (fun z hz => .inr (by have := hM.lob z (by simpa using hz); have := hB0.out; omega))
      replace happ := Lib.hid happ; replace hM9 := Lib.hid hM9; replace hF9 := Lib.hid hF9; replace F9 := Lib.hid F9; replace hM := Lib.hid hM; replace hF := Lib.hid hF; replace Pm := Lib.hid Pm; replace Fm := Lib.hid Fm
      clear hwm
      go_wp2_with (first | (at_builtin; refine wpList_append_run _ rfl _ _ _ rfl rfl rfl happ.out ?_))
      go_roundg (go - 1)
      case measure => omega
      case rel => exact ⟨n + 1, _, _, by omega, by omega, by go_num, hM9.out, F9.out⟩
    · have hltI : ¬ (n : Int) < A.st := by rw [hnaI.out]; omega
      obtain rfl : n = na := by omega
      obtain ⟨bq, oq, cq, rfl, _, _, _⟩ := hM.get 0 (by omega)
      have hS0 : SoM A B (fun _ _ => false) := fun a b _ _ h => by cases h
      replace hM := Lib.hid hM; replace hF := Lib.hid hF; replace hS0 := Lib.hid hS0
      go_wp2_with fail
      clear kt ku
      go_loopg [7] (2 * fals n nb (fun _ _ => false) + 1) (fun k v7 wr => ∃ (more : Bool) (M : Nat → Nat → Bool), v7 = .bool more ∧ k = 2 * fals n nb M + more.toNat ∧ MtI B0 n nb wr (.slice (some ⟨bq, oq, none⟩) n cq) bo bs M ∧ SoM A B M ∧ (more = false → ∀ a b, a < n → b < nb → CloM A B M a b) ∧ Fr [] w2 wr)
      case atStart => exact ⟨true, _, rfl, rfl, hM.out, hS0.out, (fun h => by cases h), hF.out⟩
      case round =>
        obtain ⟨more, M0, rfl, hk1, hM0, hS, hC, hF1⟩ := hrel
        obtain ⟨wp, rfl⟩ : ∃ x : World, x = wr := ⟨_, rfl⟩
        obtain ⟨gp, rfl⟩ : ∃ g : Nat, g = gk := ⟨_, rfl⟩
        cases more
        · as_aux_lemma =>
          have hap := ap_iff hVA.out hVB.out hev.out hS (fun a b ha hb => hC rfl a b (by have := hnaI.out; omega) (by have := hnbI.out; omega))
          have ND : ApR A B w (.returned (.slice (some ⟨bq, oq, none⟩) n cq)) wp := ⟨_, bo, bs, M0, rfl, by rw [hna.out, hnb.out]; exact hM0.lower lw, hap, FA.out.trans hF1⟩
          replace ND := Lib.hid ND; replace hap := Lib.hid hap; replace hC := Lib.hid hC; replace hS := Lib.hid hS; replace hM0 := Lib.hid hM0; replace hF1 := Lib.hid hF1; replace hk1 := Lib.hid hk1
          go_wp2_with fail
          go_ret
          exact ND.out
        · have hk2 : gp = 2 * fals n nb M0 + 1 := hk1
          have hP0 := Pa.start (na := n) (nb := nb) hS
          replace hP0 := Lib.hid hP0; replace hC := Lib.hid hC; replace hS := Lib.hid hS; replace hM0 := Lib.hid hM0; replace hF1 := Lib.hid hF1; replace hk1 := Lib.hid hk1; replace hk2 := Lib.hid hk2
          go_wp2_with fail
          go_loopg [7, 8] (n + 1) (fun k v7 v8 wr => ∃ (a : Nat) (more : Bool) (M : Nat → Nat → Bool), a ≤ n ∧ k + a = n + 1 ∧ v8 = .int .i64 a ∧ v7 = .bool more ∧ Pa A B n nb M0 more M a 0 ∧ MtI B0 n nb wr (.slice (some ⟨bq, oq, none⟩) n cq) bo bs M ∧ Fr [] w2 wr)
          case atStart => exact ⟨0, false, _, by omega, by omega, rfl, rfl, hP0.out, hM0.out, hF1.out⟩
          case round =>
            obtain ⟨a, more, M, ha, hk3, rfl, rfl, hP, hM1, hF2⟩ := hrel
            obtain ⟨wa, rfl⟩ : ∃ x : World, x = wr := ⟨_, rfl⟩
            obtain ⟨ga, rfl⟩ : ∃ g : Nat, g = gk := ⟨_, rfl⟩
            have kt := (hF2.pt Q1.out (by simp)).cell
            by_cases hla : a < n
            · have hlaI : (a : Int) < A.st := by rw [hnaI.out]; omega
              replace hP := Lib.hid hP; replace hM1 := Lib.hid hM1; replace hF2 := Lib.hid hF2
              go_wp2_with fail
              clear kt
              go_loopg [7, 9] (nb + 1) (fun k v7 v9 wr => ∃ (b : Nat) (more : Bool) (M : Nat → Nat → Bool), b ≤ nb ∧ k + b = nb + 1 ∧ v9 = .int .i64 b ∧ v7 = .bool more ∧ Pa A B n nb M0 more M a b ∧ MtI B0 n nb wr (.slice (some ⟨bq, oq, none⟩) n cq) bo bs M ∧ Fr [] w2 wr)
              case atStart => exact ⟨0, _, _, by omega, by omega, rfl, rfl, hP.out, hM1.out, hF2.out⟩
              clear hP hM1 hF2 M more
              case round =>
                obtain ⟨b, more, M, hb, hk4, rfl, rfl, hP, hM1, hF2⟩ := hrel
                obtain ⟨wb, rfl⟩ : ∃ x : World, x = wr := ⟨_, rfl⟩
                obtain ⟨gb, rfl⟩ : ∃ g : Nat, g = gk := ⟨_, rfl⟩
                have ku := (hF2.pt P2.out (by simp)).cell
                by_cases hlb : b < nb
                · have hlbI : (b : Int) < B.st := by rw [hnbI.out]; omega
                  have hE0 := Pe.start hP
                  replace hE0 := Lib.hid hE0; replace hP := Lib.hid hP; replace hM1 := Lib.hid hM1; replace hF2 := Lib.hid hF2
                  go_wp2_with fail
                  clear ku
                  go_loopg [7, 10] 20 (fun k v7 v10 wr => ∃ (j : Nat) (more : Bool) (M : Nat → Nat → Bool), (j : Int) ≤ A.ev ∧ k + j = 20 ∧ v10 = .int .i64 j ∧ v7 = .bool more ∧ Pe A B n nb M0 more M a b j ∧ MtI B0 n nb wr (.slice (some ⟨bq, oq, none⟩) n cq) bo bs M ∧ Fr [] w2 wr)
                  case atStart => exact ⟨0, _, _, by omega, by omega, rfl, rfl, hE0.out, hM1.out, hF2.out⟩
                  clear hE0 hP hM1 hF2 M more
                  case round =>
                    obtain ⟨j, more, M, hj, hk5, rfl, rfl, hE, hM1, hF2⟩ := hrel
                    obtain ⟨w0', rfl⟩ : ∃ x : World, x = wr := ⟨_, rfl⟩
                    obtain ⟨ge, rfl⟩ : ∃ g : Nat, g = gk := ⟨_, rfl⟩
                    have kt := (hF2.pt Q1.out (by simp)).cell
                    obtain ⟨bq', oq', cq', hv', hbq, hg1, hg2⟩ := hM1.get a hla
                    obtain ⟨rfl, rfl, rfl⟩ : bq = bq' ∧ oq = oq' ∧ cq = cq' := by simp at hv'; exact ⟨hv'.1.1, hv'.1.2, hv'.2⟩
                    have hg3 := hg2 b hlb
                    have hlaN : (a : Int) < (n : Int) := by omega
                    have hlbN : (b : Int) < (nb : Int) := by omega
                    clear hv'
                    by_cases hlj : (j : Int) < A.ev
                    · cases hMab : M a b
                      · rw [hMab] at hg3
                        replace hMab := Lib.hid hMab
                        have hsr : a < A.rows.length := by have := hnaI.out; omega
                        have hsrI : (a : Int) < A.rows.length := by omega
                        have htr : b < B.rows.length := by have := hnbI.out; omega
                        have htrI : (b : Int) < B.rows.length := by omega
                        obtain ⟨BB, off, u, rfl, hB, hcB, o2, cap2, rfl, hu⟩ := hlA.out a hsr
                        obtain ⟨BC, off3, u3, rfl, hC', hcC, o3, cap3, rfl, hv⟩ := hlB.out b htr
                        obtain ⟨row, hrow⟩ : ∃ row, A.rows[a] = row := ⟨_, rfl⟩
                        obtain ⟨sow, hsow⟩ : ∃ row, B.rows[b] = row := ⟨_, rfl⟩
                        have hrl2 := hVA.out.row _ (List.getElem_mem hsr)
                        have hcells := hVA.out.cell _ (List.getElem_mem hsr)
                        have hrl3 := hVB.out.row _ (List.getElem_mem htr)
                        have hcells3 := hVB.out.cell _ (List.getElem_mem htr)
                        rw [hrow] at hu hrl2 hcells hcB
                        rw [hsow] at hv hrl3 hcells3 hcC
                        have hltj : j < row.length := by omega
                        have hltS : j < sow.length := by have := hev.out; omega
                        have hltJ : (j : Int) < row.length := by omega
                        have hltSI : (j : Int) < sow.length := by omega
                        obtain ⟨B2, off2, rfl, hB2, ha1, ha2⟩ := hu j hltj
                        obtain ⟨B3, off4, rfl, hB3, hb1, hb2⟩ := hv j hltS
                        have hce := hcells _ (List.getElem_mem hltj)
                        have hcf := hcells3 _ (List.getElem_mem hltS)
                        obtain ⟨⟨x1, x2⟩, hx⟩ : ∃ x, row[j] = x := ⟨_, rfl⟩
                        obtain ⟨⟨y1, y2⟩, hy⟩ : ∃ x, sow[j] = x := ⟨_, rfl⟩
                        rw [hx] at ha1 ha2 hce
                        rw [hy] at hb1 hb2 hcf
                        dsimp only at ha1 ha2 hb1 hb2 hce hcf
                        have hatA : A.at (a : Int) (j : Int) = (x1, x2) := by
                          obtain ⟨_, _, e1⟩ := hVA.out.get (s := (a : Int)) (e := (j : Int)) (by omega) (by have := hnaI.out; omega) (by omega) hlj
                          rw [e1]; simp only [Int.toNat_natCast]; rw [← hx]; subst hrow; rfl
                        have hatB : B.at (b : Int) (j : Int) = (y1, y2) := by
                          obtain ⟨_, _, e1⟩ := hVB.out.get (s := (b : Int)) (e := (j : Int)) (by omega) (by have := hnbI.out; omega) (by omega) (by have := hev.out; omega)
                          rw [e1]; simp only [Int.toNat_natCast]; rw [← hy]; subst hsow; rfl
                        have hFw := FA.out.trans hF2
                        have c1 := hFw.cell (p := ⟨BB, off + a, none⟩) hB (by simp)
                        rw [hcB] at c1
                        have c2 := hFw.cell (p := ⟨BC, off3 + b, none⟩) hC' (by simp)
                        rw [hcC] at c2
                        have c3 := hFw.cell (p := ⟨B2, off2 + j * 2, none⟩) hB2 (by simp)
                        rw [ha1] at c3
                        have c4 := hFw.cell (p := ⟨B2, off2 + j * 2 + 1, none⟩) hB2 (by simp)
                        rw [ha2] at c4
                        have c5 := hFw.cell (p := ⟨B3, off4 + j * 2, none⟩) hB3 (by simp)
                        rw [hb1] at c5
                        have c6 := hFw.cell (p := ⟨B3, off4 + j * 2 + 1, none⟩) hB3 (by simp)
                        rw [hb2] at c6
                        have ku := (hF2.pt P2.out (by simp)).cell
                        have hs2 := hFw.size
                        have l1 : BB < w0'.heap.size := by omega
                        have l2 : BC < w0'.heap.size := by omega
                        have l3 : B2 < w0'.heap.size := by omega
                        have l4 : B3 < w0'.heap.size := by omega
                        have l5 : b1 < w0'.heap.size := (hF2.pt Q1.out (by simp)).lt
                        have l6 : b2 < w0'.heap.size := (hF2.pt P2.out (by simp)).lt
                        obtain ⟨e1, e2, e3, e4, e5⟩ := hce
                        obtain ⟨d1, d2, d3, d4, d5⟩ := hcf
                        have SS : ∀ W, Fr [] w0' W → W.cell? ⟨b1, 3, none⟩ = some (.slice (some ⟨BB, off, none⟩) A.rows.length capA) ∧ W.cell? ⟨b2, 3, none⟩ = some (.slice (some ⟨BC, off3, none⟩) B.rows.length capB) ∧ W.cell? ⟨BB, off + a, none⟩ = some (.slice (some ⟨B2, off2, none⟩) row.length cap2) ∧ W.cell? ⟨BC, off3 + b, none⟩ = some (.slice (some ⟨B3, off4, none⟩) sow.length cap3) ∧ W.cell? ⟨B2, off2 + j * 2, none⟩ = some (.int .i64 x1) ∧ W.cell? ⟨B2, off2 + j * 2 + 1, none⟩ = some (.int .i64 x2) ∧ W.cell? ⟨B3, off4 + j * 2, none⟩ = some (.int .i64 y1) ∧ W.cell? ⟨B3, off4 + j * 2 + 1, none⟩ = some (.int .i64 y2) := fun W f => by
                          refine ⟨?_, ?_, ?_, ?_, ?_, ?_, ?_, ?_⟩
                          · rw [f.cell (p := ⟨b1, 3, none⟩) l5 (by simp), kt]; rfl
                          · rw [f.cell (p := ⟨b2, 3, none⟩) l6 (by simp), ku]; rfl
                          · rw [f.cell (p := ⟨BB, off + a, none⟩) l1 (by simp)]; exact c1
                          · rw [f.cell (p := ⟨BC, off3 + b, none⟩) l2 (by simp)]; exact c2
                          · rw [f.cell (p := ⟨B2, off2 + j * 2, none⟩) l3 (by simp)]; exact c3
                          · rw [f.cell (p := ⟨B2, off2 + j * 2 + 1, none⟩) l3 (by simp)]; exact c4
                          · rw [f.cell (p := ⟨B3, off4 + j * 2, none⟩) l4 (by simp)]; exact c5
                          · rw [f.cell (p := ⟨B3, off4 + j * 2 + 1, none⟩) l4 (by simp)]; exact c6
                        have kt1 : w0'.cell? ⟨b1, 1, none⟩ = some (.int .i64 A.ev) := by rw [kt]; rfl
                        clear ha1 ha2 hb1 hb2 hs2 c1 c2 c3 c4 c5 c6 kt ku l1 l2 l3 l4 l5 l6 hg2 hu hv hcells hcells3 hcB hcC
                        replace SS := Lib.hid SS; replace hx := Lib.hid hx; replace hy := Lib.hid hy; replace hrow := Lib.hid hrow; replace hsow := Lib.hid hsow; replace hatA := Lib.hid hatA; replace hatB := Lib.hid hatB; replace e5 := Lib.hid e5; replace d5 := Lib.hid d5; replace hE := Lib.hid hE; replace hM1 := Lib.hid hM1; replace hF2 := Lib.hid hF2; replace hFw := Lib.hid hFw; replace hrl2 := Lib.hid hrl2; replace hrl3 := Lib.hid hrl3
                        go_upto_region 18 with fail
                        clear kt1 hg1 hg3
                        go_cut [11, 12] from 54 to 69 (fun v14 v15 wx => ∃ bx b3, v14 = .pointer (some ⟨bx, 0, none⟩) ∧ v15 = .pointer (some ⟨b3, 0, none⟩) ∧ Pt wx bx RRow [.int .i64 x1, .int .i64 x2] ∧ Pt wx b3 RRow [.int .i64 y1, .int .i64 y2] ∧ Fr [] w0' wx)
                        case first =>
                          as_aux_lemma =>
                          go_region_held3 (fun W => W.cell? ⟨b1, 3, none⟩ = some (.slice (some ⟨BB, off, none⟩) A.rows.length capA) ∧ W.cell? ⟨b2, 3, none⟩ = some (.slice (some ⟨BC, off3, none⟩) B.rows.length capB) ∧ W.cell? ⟨BB, off + a, none⟩ = some (.slice (some ⟨B2, off2, none⟩) row.length cap2) ∧ W.cell? ⟨BC, off3 + b, none⟩ = some (.slice (some ⟨B3, off4, none⟩) sow.length cap3) ∧ W.cell? ⟨B2, off2 + j * 2, none⟩ = some (.int .i64 x1) ∧ W.cell? ⟨B2, off2 + j * 2 + 1, none⟩ = some (.int .i64 x2) ∧ W.cell? ⟨B3, off4 + j * 2, none⟩ = some (.int .i64 y1) ∧ W.cell? ⟨B3, off4 + j * 2 + 1, none⟩ = some (.int .i64 y2))
                            ((refine SS.out _ ?_; repeat (first | exact Fr.refl _ _ | refine Fr.drew ?_ | refine Fr.alloc ?_ _ | (refine Fr.setCell ?_ (.inr (by simp)) _))))
                            (fail)
                          all_goals
                            go_wp2_with fail
                            go_meet
                            case rel =>
                              first
                              | exact ⟨_, _, rfl, rfl, ((Pt.newA w0' RRow #[.int .i64 x1, .int .i64 x2]).alloc _).drew, (Pt.newAt _ RRow #[.int .i64 y1, .int .i64 y2] (by simp)).drew, (((Fr.refl _ _).alloc _).alloc _).drew⟩
                              | exact ⟨_, _, rfl, rfl, (Pt.newAt _ RRow #[.int .i64 x1, .int .i64 x2] (by simp)).drew, ((Pt.newA w0' RRow #[.int .i64 y1, .int .i64 y2]).alloc _).drew, (((Fr.refl _ _).alloc _).alloc _).drew⟩
                        case rest =>
                          obtain ⟨bx, b3, rfl, rfl, Px, Py, Fx⟩ := hcut
                          clear SS
                          obtain ⟨wx, rfl⟩ : ∃ x : World, x = wc := ⟨_, rfl⟩
                          have hMx := hM1.out.frz Fx (by simp)
                          have kx := Px.cell
                          have ky := Py.cell
                          obtain ⟨st, hst⟩ : ∃ q, stepM A B M a b j = q := ⟨_, rfl⟩
                          have hst2 : (((decide (x1 < 0) != decide (y1 < 0)) || (x2 != y2)) || (decide (0 ≤ x1) && M x1.toNat y1.toNat)) = st := by rw [← hst]; unfold stepM; rw [hatA.out, hatB.out]; rfl
                          replace hMx := Lib.hid hMx; replace Px := Lib.hid Px; replace Py := Lib.hid Py; replace Fx := Lib.hid Fx; replace hst := Lib.hid hst; replace hst2 := Lib.hid hst2
                          go_upto_region 19 with fail
                          go_cut [99] from 70 to 98 (fun v99 wz => v99 = .bool st ∧ Fr [] wx wz)
                          case first =>
                            as_aux_lemma =>
                            obtain ⟨dx, hdx⟩ : ∃ q, decide (x1 < 0) = q := ⟨_, rfl⟩
                            obtain ⟨dy, hdy⟩ : ∃ q, decide (y1 < 0) = q := ⟨_, rfl⟩
                            obtain ⟨dq, hdq⟩ : ∃ q, (x2 == y2) = q := ⟨_, rfl⟩
                            have hdq2 : (x2 != y2) = !dq := by rw [← hdq]; rfl
                            have hst3 := hst2.out
                            rw [hdx, hdy, hdq2] at hst3
                            by_cases hcase : dx = false ∧ dy = false ∧ dq = true
                            · obtain ⟨rfl, rfl, rfl⟩ := hcase
                              have hx1 : ¬ x1 < 0 := of_decide_eq_false hdx
                              have hy1 : ¬ y1 < 0 := of_decide_eq_false hdy
                              obtain ⟨p, rfl⟩ : ∃ p : Nat, x1 = p := ⟨x1.toNat, by omega⟩
                              obtain ⟨q, rfl⟩ : ∃ p : Nat, y1 = p := ⟨y1.toNat, by omega⟩
                              have hpn : p < n := by have := hnaI.out; omega
                              have hqn : q < nb := by have := hnbI.out; omega
                              have hpnI : (p : Int) < (n : Int) := by omega
                              have hqnI : (q : Int) < (nb : Int) := by omega
                              obtain ⟨bq', oq', cq', hv', hbq2, hg4, hg5⟩ := hMx.out.get p hpn
                              obtain ⟨rfl, rfl, rfl⟩ : bq = bq' ∧ oq = oq' ∧ cq = cq' := by simp at hv'; exact ⟨hv'.1.1, hv'.1.2, hv'.2⟩
                              have hg6 := hg5 q hqn
                              have h0p : decide ((0 : Int) ≤ (p : Int)) = true := decide_eq_true (by omega)
                              have hst4 : M p q = st := by
                                rw [h0p] at hst3
                                simpa using hst3
                              rw [hst4] at hg6
                              have hge : (0 : Int) ≤ (p : Int) := by omega
                              have hgq : (0 : Int) ≤ (q : Int) := by omega
                              clear hv' hg5
                              replace hst3 := Lib.hid hst3; replace hst4 := Lib.hid hst4
                              replace hdx := Lib.hid hdx; replace hdy := Lib.hid hdy; replace h0p := Lib.hid h0p
                              simp only [Bool.not_true] at hdq2
                              go_quiet (fail)
                              go_wp2_with fail
                              go_meet
                              case rel => exact ⟨rfl, (Fr.refl _ _).drewN _⟩
                            · by_cases hneg : dx = true ∧ dy = true ∧ dq = true
                              · obtain ⟨rfl, rfl, rfl⟩ := hneg
                                have hx1 : x1 < 0 := of_decide_eq_true hdx
                                have hy1 : y1 < 0 := of_decide_eq_true hdy
                                have hst4 : st = false := by
                                  rw [← hst3, decide_eq_false (by omega)]; rfl
                                have hng : decide (0 ≤ x1) = false := decide_eq_false (by omega)
                                subst hst4
                                replace hst3 := Lib.hid hst3; replace hdx := Lib.hid hdx; replace hdy := Lib.hid hdy
                                simp only [Bool.not_true] at hdq2
                                go_quiet (fail)
                                go_wp2_with fail
                                go_meet
                                case rel => exact ⟨rfl, (Fr.refl _ _).drewN _⟩
                              · have hst4 : st = true := by
                                  rw [← hst3]
                                  cases dx <;> cases dy <;> cases dq <;> simp at hcase hneg ⊢
                                subst hst4
                                replace hst3 := Lib.hid hst3
                                cases dx
                                all_goals
                                  first | have hx1 := of_decide_eq_true hdx | have hx1 := of_decide_eq_false hdx
                                  cases dy
                                  all_goals
                                    first | have hy1 := of_decide_eq_true hdy | have hy1 := of_decide_eq_false hdy
                                    cases dq
                                    all_goals
                                      first
                                      | exact absurd ⟨rfl, rfl, rfl⟩ hcase
                                      | exact absurd ⟨rfl, rfl, rfl⟩ hneg
                                      | (simp only [Bool.not_true, Bool.not_false] at hdq2
                                         go_quiet (fail)
                                         go_wp2_with fail
                                         go_meet
                                         case rel => exact ⟨rfl, (Fr.refl _ _).drewN _⟩)
                          case rest =>
                            obtain ⟨rfl, Fz⟩ := hcut
                            obtain ⟨wz, rfl⟩ : ∃ x : World, x = wc := ⟨_, rfl⟩
                            have hMz := hMx.out.frz Fz (by simp)
                            have F2z := (hF2.out.trans Fx.out).trans Fz
                            clear kx ky
                            cases st
                            · as_aux_lemma =>
                              have hE2 := hE.out.no hst.out
                              replace hE2 := Lib.hid hE2; replace hMz := Lib.hid hMz; replace F2z := Lib.hid F2z; replace Fz := Lib.hid Fz
                              go_wp2_with fail
                              go_roundg (ge - 1)
                              case measure => omega
                              case rel => exact ⟨j + 1, _, _, by omega, by omega, by go_num, rfl, hE2.out, hMz.out, F2z.out⟩
                            · as_aux_lemma =>
                              have hE2 := hE.out.yes hVA.out hVB.out hev.out hla hlb (by have := hnaI.out; omega) (by have := hnbI.out; omega) hlj hMab.out hst.out
                              obtain ⟨bq', oq', cq', hv', hbq2, hg4, hg5⟩ := hMz.get a hla
                              obtain ⟨rfl, rfl, rfl⟩ : bq = bq' ∧ oq = oq' ∧ cq = cq' := by simp at hv'; exact ⟨hv'.1.1, hv'.1.2, hv'.2⟩
                              have hg6 := hg5 b hlb
                              have hfz := (hMz.cell a hla).free b
                              obtain ⟨hM9, hF9⟩ := hMz.put a b hla
                              obtain ⟨w9, hw9⟩ : ∃ x, wz.setCell ⟨bs a, b, none⟩ (.bool true) = x := ⟨_, rfl⟩
                              rw [hw9] at hM9 hF9
                              have F29 := F2z.step hF9 (fun z hz => .inr (by simp at hz; have := hM9.low a hla; have := hB0.out; omega))
                              clear hv' hg5
                              replace hE2 := Lib.hid hE2; replace hMz := Lib.hid hMz; replace F2z := Lib.hid F2z; replace Fz := Lib.hid Fz; replace hM9 := Lib.hid hM9; replace hF9 := Lib.hid hF9; replace F29 := Lib.hid F29
                              go_wp2_with fail
                              go_roundg (ge - 1)
                              case measure => omega
                              case rel => exact ⟨j + 1, true, _, by omega, by omega, by go_num, rfl, hE2.out, hM9.out, F29.out⟩
                      · as_aux_lemma =>
                        rw [hMab] at hg3
                        have hPd := hE.done (.inl hMab)
                        clear hg2
                        replace hMab := Lib.hid hMab; replace hE := Lib.hid hE; replace hM1 := Lib.hid hM1; replace hF2 := Lib.hid hF2; replace hPd := Lib.hid hPd
                        go_wp2_with fail
                        go_roundg (gb - 1)
                        case measure => omega
                        case rel => exact ⟨b + 1, _, _, by omega, by omega, by go_num, rfl, hPd.out, hM1.out, hF2.out⟩
                    · as_aux_lemma =>
                      have hPd := hE.done (.inr (by omega))
                      clear hg2 hg3
                      replace hE := Lib.hid hE; replace hM1 := Lib.hid hM1; replace hF2 := Lib.hid hF2; replace hPd := Lib.hid hPd
                      go_wp2_with fail
                      go_roundg (gb - 1)
                      case measure => omega
                      case rel => exact ⟨b + 1, _, _, by omega, by omega, by go_num, rfl, hPd.out, hM1.out, hF2.out⟩
                · as_aux_lemma =>
                  have hlbI : ¬ (b : Int) < B.st := by rw [hnbI.out]; omega
                  obtain rfl : b = nb := by omega
                  have hP2 := hP.row
                  replace hP2 := Lib.hid hP2; replace hP := Lib.hid hP; replace hM1 := Lib.hid hM1; replace hF2 := Lib.hid hF2
                  go_wp2_with fail
                  go_roundg (ga - 1)
                  case measure => omega
                  case rel => exact ⟨a + 1, _, _, by omega, by omega, by go_num, rfl, hP2.out, hM1.out, hF2.out⟩
            · as_aux_lemma =>
              have hlaI : ¬ (a : Int) < A.st := by rw [hnaI.out]; omega
              obtain rfl : a = n := by omega
              have hmore : 2 * fals a nb M + more.toNat < gp := by
                have := hk2.out
                cases more
                · obtain ⟨h1, _⟩ := hP.closed; rw [h1, this]; simp
                · have := hP.2.1 rfl; simp; omega
              have hcl : more = false → ∀ x y, x < a → y < nb → CloM A B M x y := fun h => by subst h; exact hP.closed.2
              have hSo := hP.1
              replace hcl := Lib.hid hcl; replace hP := Lib.hid hP; replace hM1 := Lib.hid hM1; replace hF2 := Lib.hid hF2; replace hSo := Lib.hid hSo
              go_wp2_with fail
              go_roundg (2 * fals a nb M + more.toNat)
              case measure => exact hmore
              case rel => exact ⟨more, M, rfl, rfl, hM1.out, hSo.out, hcl.out, hF2.out⟩
end Go.Proofs.Ytnggimkkjdipmaa
namespace Go.Proofs.Ytnggimkkjdipmaa
open Go.RowKit
set_option linter.unusedVariables false
set_option linter.unusedSimpArgs false
set_option maxHeartbeats 16000000
set_option maxRecDepth 100000
/-! ### The reference's meet -/
theorem rmeet_any (T : Tb) (hV : VT T) (n B0 : Nat) (hn : T.st = (n : Int)) (dv : Value) (bo : Option Nat) (bs : Nat → Nat) (M : Nat → Nat → Bool) (q : Nat → Prop) (lv : Value) (l : List Int) (s : Nat) (w : World)
    (hM : MtI B0 n n w dv bo bs M) (hAp : ∀ a b : Nat, a < n → b < n → (M a b = true ↔ Ap T T a b)) (hl : NInB q w lv l) (hq : ∀ z, w.heap.size ≤ z → q z) (hlr : ∀ x ∈ l, 0 ≤ x ∧ x < T.st) (hs : s < n) (hlen : l.length ≤ 100) :
    Calls Try.prog 106 #[dv, lv, .int .i64 s] w fun e w' => ∃ v', e = .returned v' ∧ NInB q w' v' (mtL T l s) ∧ Fr [] w w' := by
  obtain ⟨bq, oq, cq, rfl, _⟩ := hM.get 0 (by omega)
  have hl0 := hl
  obtain ⟨o, cap, rfl, hl⟩ := hl
  have hcl : ∀ a : Nat, a < n → (M a s = false ↔ gI (classes T) a = gI (classes T) s) := fun a ha => by
    have h1 := hAp a s ha hs
    have h2 := ap_cls hV (s := (a : Int)) (t := (s : Int)) ⟨by omega, by omega⟩ ⟨by omega, by omega⟩
    constructor
    · intro hm
      exact Classical.byContradiction fun hc => by rw [h1.mpr (h2.mpr hc)] at hm; cases hm
    · intro hc
      cases hm : M a s with
      | false => rfl
      | true => exact absurd hc (h2.mp (h1.mp hm))
  replace hM := Lib.hid hM; replace hl := Lib.hid hl; replace hl0 := Lib.hid hl0; replace hcl := Lib.hid hcl; replace hlr := Lib.hid hlr; replace hn := Lib.hid hn; replace hAp := Lib.hid hAp
  go_enter Try.func106, Try.ntmps106
  go_wp2_with fail
  go_loopg [7] (l.length + 1) (fun k v7 wr => ∃ i : Nat, i ≤ l.length ∧ k + i = l.length + 1 ∧ v7 = .int .i64 i ∧ (∀ j (h : j < l.length), j < i → gI (classes T) l[j] ≠ gI (classes T) s) ∧ Fr [] w wr)
  case atStart => exact ⟨0, by omega, by omega, rfl, fun j _ hj => by omega, Fr.refl _ _⟩
  case round =>
    obtain ⟨i, hi, hk, rfl, hno, hF⟩ := hrel
    obtain ⟨wi, rfl⟩ : ∃ x : World, x = wr := ⟨_, rfl⟩
    by_cases hlt : i < l.length
    · have hltI : (i : Int) < l.length := by omega
      obtain ⟨B1, f1, rfl, hB1, _, x1⟩ := hl.out i hlt
      have x1 := (hF.cell (p := ⟨B1, f1 + i, none⟩) hB1 (by simp)).trans x1
      have hr1 := hlr.out _ (List.getElem_mem hlt)
      rw [hn.out] at hr1
      obtain ⟨a, ha⟩ : ∃ a : Nat, l[i] = (a : Int) := ⟨l[i].toNat, by omega⟩
      rw [ha] at x1 hr1
      have han : a < n := by omega
      obtain ⟨bq', oq', cq', e9, _, y1, z1⟩ := (hM.out.frz hF (by simp)).get a han
      obtain ⟨⟨rfl, rfl⟩, rfl⟩ : (bq = bq' ∧ oq = oq') ∧ cq = cq' := by simpa using e9
      replace z1 := z1 s hs
      have hc := hcl.out a han
      clear e9
      cases hm : M a s
      · rw [hm] at z1
        have hres : mtL T l s = l := by
          unfold mtL
          rw [if_pos]
          simp only [List.any_eq_true, decide_eq_true_eq]
          exact ⟨l[i], List.getElem_mem hlt, by rw [ha]; exact hc.mp hm⟩
        have GN : NInB q wi _ l := hl0.out.frq hF (fun b _ h => ⟨by simp, h⟩)
        replace hno := Lib.hid hno; replace hF := Lib.hid hF; replace hc := Lib.hid hc; replace hm := Lib.hid hm; replace ha := Lib.hid ha; replace hres := Lib.hid hres; replace GN := Lib.hid GN; replace hr1 := Lib.hid hr1
        go_wp2_with fail
        go_ret
        exact ⟨_, rfl, by rw [hres.out]; exact GN.out, hF.out⟩
      · rw [hm] at z1
        have hno' : ∀ j (h : j < l.length), j < i + 1 → gI (classes T) l[j] ≠ gI (classes T) s := fun j h hj => by
          by_cases e : j = i
          · subst e; rw [ha]; intro hc'
            have := hc.mpr hc'
            rw [hm] at this; cases this
          · exact hno j h (by omega)
        replace hno := Lib.hid hno; replace hF := Lib.hid hF; replace hc := Lib.hid hc; replace hm := Lib.hid hm; replace ha := Lib.hid ha; replace hno' := Lib.hid hno'; replace hr1 := Lib.hid hr1
        go_wp2_with fail
        go_roundg (gk - 1)
        case measure => omega
        case rel => exact ⟨i + 1, by omega, by omega, by go_num, hno'.out, hF.out⟩
    · have hltI : ¬ (i : Int) < l.length := by omega
      have hres : mtL T l s = l ++ [(s : Int)] := by
        unfold mtL
        rw [if_neg]
        simp only [List.any_eq_true, decide_eq_true_eq]
        rintro ⟨x, hx, he⟩
        obtain ⟨j, hj, rfl⟩ := List.getElem_of_mem hx
        exact hno j hj (by omega) he
      have C := rcopy_any _ l wi (hl0.out.nin.fr hF) (by omega)
      replace hno := Lib.hid hno; replace hF := Lib.hid hF; replace hres := Lib.hid hres; replace C := Lib.hid C
      go_wp2_with fail
      refine C.out.mono ?_
      rintro e w2 ⟨v2, bo2, rfl, hr2, hb2, f2⟩
      obtain ⟨v3, w3, bo3, happ, hr3, hb3, f3⟩ := hr2.one (by omega) (s : Int)
      have FF : Fr [] w w3 := (hF.out.trans f2).step f3 (fun z hz => .inr (by have := hb2 z (by simpa using hz); have := hF.out.size; omega))
      have GN : NInB q w3 v3 (l ++ [(s : Int)]) := hr3.ninb (fun z hz => hq z (by have := hF.out.size; have := f2.size; rcases hb3 with e | ⟨z', e, h⟩; first | (have := hb2 z (by rw [← e]; exact hz); omega); first | (rw [hz] at e; cases e; omega)))
      obtain ⟨o2, c2, rfl⟩ := hr2.len
      replace hr2 := Lib.hid hr2; replace hb2 := Lib.hid hb2; replace f2 := Lib.hid f2; replace hr3 := Lib.hid hr3; replace f3 := Lib.hid f3; replace FF := Lib.hid FF; replace GN := Lib.hid GN; replace happ := Lib.hid happ
      go_wp2_with (first | (at_builtin; refine wpList_append_run _ rfl _ _ _ rfl rfl rfl happ.out ?_))
      go_ret
      exact ⟨_, rfl, by rw [hres.out]; exact GN.out, FF.out⟩
end Go.Proofs.Ytnggimkkjdipmaa
namespace Go.Proofs.Ytnggimkkjdipmaa
open Go.RowKit
set_option linter.unusedVariables false
set_option linter.unusedSimpArgs false
set_option maxHeartbeats 16000000
set_option maxRecDepth 100000
/-! ### The reference's walk -/
theorem RIn.addr {T : Tb} (hV : VT T) {w : World} {r : Value} (h : RIn w r T.rows) {n : Nat} (hn : T.st = (n : Int)) : ∃ B off cap, r = .slice (some ⟨B, off, none⟩) n cap := by
  obtain ⟨o, cap, rfl, hl⟩ := h
  have h1 := hV.rows; have h2 := hV.st
  obtain ⟨B, off, u, rfl, _⟩ := hl 0 (by omega)
  exact ⟨B, off, cap, by rw [show T.rows.length = n by omega]⟩
theorem RIn.at {T : Tb} (hV : VT T) {w : World} {B off n cap : Nat} (h : RIn w (.slice (some ⟨B, off, none⟩) n cap) T.rows) {m : Nat} (hm : T.ev = (m : Int)) (x j : Nat) (hx : (x : Int) < T.st) (hj : j < m) :
    ∃ B2 off2 cap2, B < w.heap.size ∧ w.cell? ⟨B, off + x, none⟩ = some (.slice (some ⟨B2, off2, none⟩) m cap2) ∧ w.cell? ⟨B2, off2 + j * 2, none⟩ = some (.int .i64 (T.at x j).1) ∧ w.cell? ⟨B2, off2 + j * 2 + 1, none⟩ = some (.int .i64 (T.at x j).2) := by
  obtain ⟨o, cap', e, hl⟩ := h
  have h1 := hV.rows
  have hx2 : x < T.rows.length := by omega
  obtain ⟨B', off', u, e2, hB, hc, o2, cap2, rfl, hu⟩ := hl x hx2
  have hr := hV.row _ (List.getElem_mem hx2)
  have hj2 : j < T.rows[x].length := by omega
  obtain ⟨B2, off2, rfl, hB2, a1, a2⟩ := hu j hj2
  subst e2
  obtain ⟨⟨rfl, rfl⟩, _⟩ : (B = B' ∧ off = off') ∧ _ := by simpa using e
  obtain ⟨_, _, hat⟩ := hV.get (s := (x : Int)) (e := (j : Int)) (by omega) hx (by omega) (by omega)
  simp only [Int.toNat_natCast] at hat
  rw [hat]
  exact ⟨B2, off2, cap2, hB, by rw [hc, show T.rows[x].length = m by omega], a1, a2⟩
def negs (i n : Nat) : List Int := (List.range n).map fun j => if j < i then -1 else 0
theorem negs_zero (n : Nat) : List.replicate n (0 : Int) = negs 0 n := by
  apply List.ext_getElem
  · simp [negs]
  · intro i h1 h2; simp [negs]
theorem negs_all (n : Nat) : negs n n = List.replicate n (-1) := by
  apply List.ext_getElem
  · simp [negs]
  · intro i h1 h2
    have : i < n := by simpa [negs] using h1
    simp [negs, this]
theorem negs_get (i n j : Nat) (h : j < n) : ∃ x, (ints (negs i n))[j]? = some (.int .i64 x) := ⟨if j < i then -1 else 0, by simp [negs, ints, h]⟩
theorem negs_set (i n : Nat) (h : i < n) : (ints (negs i n)).set i (.int .i64 (-1)) = ints (negs (i + 1) n) := by
  rw [ints_set]
  congr 1
  apply List.ext_getElem
  · simp [negs]
  · intro j h1 h2
    simp only [negs, List.getElem_set, List.getElem_map, List.getElem_range]
    by_cases e : i = j
    · subst e; simp
    · rw [if_neg e]
      by_cases h3 : j < i
      · rw [if_pos h3, if_pos (by omega)]
      · rw [if_neg h3, if_neg (by omega)]
theorem ints_get (l : List Int) (j : Nat) (h : j < l.length) : (ints l)[j]? = some (.int .i64 (gI l j)) := by
  simp [ints, gI, h]
theorem MtI.frx {B0 k nb : Nat} {wr : World} {v : Value} {bo : Option Nat} {bs : Nat → Nat} {M : Nat → Nat → Bool} (h : MtI B0 k nb wr v bo bs M) {ex : List Nat} {W : World} (f : Fr ex wr W) (hx : ∀ x ∈ ex, wr.heap.size ≤ x) : MtI B0 k nb W v bo bs M :=
  ⟨h.row.fr f (fun z hz hm => by have h3 := h.row; rw [hz] at h3; have := h3.lt; have := hx z hm; omega), fun r hr => f.pt (h.cell r hr) (fun hm => by have := (h.cell r hr).lt; have := hx _ hm; omega), h.inj, h.nbo, h.low, h.lob⟩
def WkR (T : Tb) (w : World) (e : Ending) (w' : World) : Prop :=
  ∃ v1 l bn N, e = .returned (.tuple #[v1, .slice (some ⟨bn, 0, none⟩) T.st.toNat T.st.toNat]) ∧ NIn w' v1 l ∧ Rho T l ∧ Pt w' bn 3 (ints N) ∧ NuOk T N T.st.toNat 0 ∧ Fr [] w w'
theorem rwalk_any (T : Tb) (v : Value) (w : World) (hT : TIn w v T) (hV : VT T) :
    Calls Try.prog 94 #[v] w (WkR T w) := by
  obtain ⟨r, rfl, hR⟩ := hT
  have hst := hV.st; have hsr := hV.sr; have hev := hV.ev
  obtain ⟨n, hn⟩ : ∃ n : Nat, T.st.toNat = n := ⟨_, rfl⟩
  obtain ⟨m, hm⟩ : ∃ n : Nat, T.ev.toNat = n := ⟨_, rfl⟩
  obtain ⟨s0, hs0⟩ : ∃ n : Nat, T.sr.toNat = n := ⟨_, rfl⟩
  have hnI : T.st = (n : Int) := by omega
  have hmI : T.ev = (m : Int) := by omega
  have hsI : T.sr = (s0 : Int) := by omega
  have hn30 : n ≤ 30 := by omega
  have hn1 : 1 ≤ n := by omega
  have hm30 : m ≤ 12 := by omega
  obtain ⟨BB, off, cap, rfl⟩ := hR.addr hV hnI
  rw [show T.val (.slice (some ⟨BB, off, none⟩) n cap) = .agg #[.int .i64 T.st, .int .i64 T.ev, .int .i64 T.sr, .slice (some ⟨BB, off, none⟩) n cap] from rfl]
  obtain ⟨w1, hw1⟩ : ∃ x, w.alloc (.cells #[.int .i64 T.st, .int .i64 T.ev, .int .i64 T.sr, .slice (some ⟨BB, off, none⟩) n cap] RTab) = x := ⟨_, rfl⟩
  have P1 := Pt.newA w RTab #[.int .i64 T.st, .int .i64 T.ev, .int .i64 T.sr, .slice (some ⟨BB, off, none⟩) n cap]
  rw [hw1] at P1
  have F1 : Fr [] w w1 := by rw [← hw1]; exact (Fr.refl [] w).alloc _
  obtain ⟨b1, hb1⟩ : ∃ x, w.heap.size = x := ⟨_, rfl⟩
  rw [hb1] at P1
  have AC := rapart_any T T _ _ w1 ⟨_, rfl, hR.fr F1⟩ ⟨_, rfl, hR.fr F1⟩ hV hV rfl
  rw [show T.val (.slice (some ⟨BB, off, none⟩) n cap) = .agg #[.int .i64 T.st, .int .i64 T.ev, .int .i64 T.sr, .slice (some ⟨BB, off, none⟩) n cap] from rfl] at AC
  have k1 := P1.cell
  have hst0 : (0 : Int) ≤ T.st := by omega
  have hst1 : T.st ≤ 1000 := by omega
  replace hR := Lib.hid hR; replace hV := Lib.hid hV; replace AC := Lib.hid AC; replace hn := Lib.hid hn; replace hm := Lib.hid hm; replace hs0 := Lib.hid hs0; replace hnI := Lib.hid hnI; replace hmI := Lib.hid hmI; replace hsI := Lib.hid hsI; replace hst := Lib.hid hst; replace hsr := Lib.hid hsr; replace hev := Lib.hid hev
  go_enter Try.func94, Try.ntmps94
  go_wp2_with fail
  refine AC.out.mono ?_
  rintro e w2 ⟨dv, bo, bs, M, rfl, hM, hAp, f2⟩
  have F2 := F1.trans f2
  have P2 := f2.pt P1 (by simp)
  have hmk := make_ints T.st w2 hst0 hst1
  rw [hn.out] at hM hmk
  rw [negs_zero] at hmk
  have hAp : ∀ a b : Nat, a < n → b < n → (M a b = true ↔ Ap T T a b) := fun a b ha hb => hAp a b (by rw [hnI.out]; omega) (by rw [hnI.out]; omega)
  obtain ⟨w3, hw3⟩ : ∃ x, w2.alloc (.cells (ints (negs 0 n)).toArray 3) = x := ⟨_, rfl⟩
  have P3 := Pt.new w2 3 (ints (negs 0 n))
  rw [hw3] at hmk P3
  have F3 : Fr [] w2 w3 := by rw [← hw3]; exact (Fr.refl [] w2).alloc _
  obtain ⟨bn, hbn⟩ : ∃ x, w2.heap.size = x := ⟨_, rfl⟩
  rw [hbn] at hmk P3
  have lt1 : b1 < bn := by have := P2.lt; omega
  clear k1 hb1 hw1 hw3
  have k2 := P2.cell
  have CM : ∀ (W : World) (lv : Value) (l : List Int) (s : Nat), Fr [] w3 W → NInB (fun b => b ≠ bn) W lv l → WaI T l → s < n → Calls Try.prog 106 #[dv, lv, .int .i64 s] W fun e w' => ∃ v', e = .returned v' ∧ NInB (fun b => b ≠ bn) w' v' (mtL T l s) ∧ Fr [] W w' := fun W lv l s hf hl hI hs =>
    rmeet_any T hV.out n w1.heap.size hnI.out dv bo bs M _ lv l s W ((hM.frz F3 (by simp)).frz hf (by simp)) hAp hl (fun z hz => by have := hf.size; have := P3.lt; omega) (fun x hx => (order_ok hV.out).rng x (hI.mem x hx)) hs (by have := hI.len hV.out; have := hn.out; omega)
  obtain ⟨bq, oq, cq, rfl, _⟩ := hM.get 0 (by omega)
  replace hM := Lib.hid hM; replace hAp := Lib.hid hAp; replace P1 := Lib.hid P1; replace P2 := Lib.hid P2; replace P3 := Lib.hid P3; replace F1 := Lib.hid F1; replace F2 := Lib.hid F2; replace F3 := Lib.hid F3; replace f2 := Lib.hid f2; replace CM := Lib.hid CM; replace hbn := Lib.hid hbn; replace lt1 := Lib.hid lt1
  go_wp2_with fail
  clear hmk k2
  go_loopg [7] (n + 1) (fun k v7 wr => ∃ i : Nat, i ≤ n ∧ k + i = n + 1 ∧ v7 = .int .i64 i ∧ Pt wr bn 3 (ints (negs i n)) ∧ Fr [bn] w3 wr)
  case atStart => exact ⟨0, by omega, by omega, rfl, P3.out, Fr.refl _ _⟩
  case round =>
    obtain ⟨i, hi, hk, rfl, hN, hF⟩ := hrel
    obtain ⟨wi, rfl⟩ : ∃ x : World, x = wr := ⟨_, rfl⟩
    have k1 := (hF.pt (F3.out.pt P2.out (by simp)) (by have := lt1.out; simp; omega)).cell
    by_cases hlt : i < n
    · have hltI : (i : Int) < T.st := by rw [hnI.out]; omega
      have hltN : (i : Int) < (n : Int) := by omega
      obtain ⟨x, c1⟩ := negs_get i n i hlt
      rw [← hN.cell] at c1
      have z1 := hN.free i
      have hN2 := hN.set i (.int .i64 (-1))
      rw [negs_set i n hlt] at hN2
      have GF : Fr [bn] w3 (wi.setCell ⟨bn, i, none⟩ (.int .i64 (-1))) := hF.setCell (.inl (by simp)) _
      replace hN := Lib.hid hN; replace hF := Lib.hid hF; replace hN2 := Lib.hid hN2; replace GF := Lib.hid GF
      go_wp2_with fail
      go_roundg (gk - 1)
      case measure => omega
      case rel => exact ⟨i + 1, by omega, by omega, by go_num, hN2.out, GF.out⟩
    · have hltI : ¬ (i : Int) < T.st := by rw [hnI.out]; omega
      obtain rfl : i = n := by omega
      rw [negs_all] at hN
      have hs0n : s0 < i := by have := hsr.out; have := hnI.out; have := hsI.out; omega
      have FE : Fr [] w3 w3 := Fr.refl _ _
      have hF2 : Fr [] w2 wi := F3.out.step hF (fun z hz => .inr (by have := hbn.out; simp at hz; omega))
      have C : Calls Try.prog 106 #[.slice (some ⟨bq, oq, none⟩) i cq, .slice none 0 0, .int .i64 s0] wi fun e w' => ∃ v', e = .returned v' ∧ NInB (fun b => b ≠ bn) w' v' (mtL T [] s0) ∧ Fr [] wi w' :=
        rmeet_any T hV.out i w1.heap.size hnI.out _ bo bs M _ _ [] s0 wi (hM.out.frz hF2 (by simp)) hAp.out ⟨none, 0, rfl, fun i h => by simp at h⟩ (fun z hz => by have := hN.lt; omega) (by simp) hs0n (by simp)
      have k9 : wi.cell? ⟨b1, 2, none⟩ = some (.int .i64 s0) := by rw [k1]; simp [hsI.out]
      have e0 : mtL T [] (s0 : Int) = [T.sr] := by rw [hsI.out]; rfl
      rw [e0] at C
      have k0 : wi.cell? ⟨b1, 0, none⟩ = some (.int .i64 T.st) := k1 0
      clear k1
      replace hF := Lib.hid hF; replace hF2 := Lib.hid hF2; replace hN := Lib.hid hN; replace C := Lib.hid C; replace e0 := Lib.hid e0
      go_wp2_with fail
      refine C.out.mono ?_
      rintro e w4 ⟨v4, rfl, n4, f4⟩
      have W0 := WoI.start hV.out
      have F4 := hF2.out.trans f4
      have N4 := f4.pt hN.out (by simp)
      have CM : ∀ (W : World) (lv : Value) (l : List Int) (s : Nat), Fr [] w4 W → NInB (fun b => b ≠ bn) W lv l → WaI T l → s < i → Calls Try.prog 106 #[.slice (some ⟨bq, oq, none⟩) i cq, lv, .int .i64 s] W fun e w' => ∃ v', e = .returned v' ∧ NInB (fun b => b ≠ bn) w' v' (mtL T l s) ∧ Fr [] W w' := fun W lv l s hf hl hI hs =>
        rmeet_any T hV.out i w1.heap.size hnI.out _ bo bs M _ lv l s W ((hM.out.frz F4 (by simp)).frz hf (by simp)) hAp.out hl (fun z hz => by have := hf.size; have := N4.lt; omega) (fun x hx => (order_ok hV.out).rng x (hI.mem x hx)) hs (by have := hI.len hV.out; have := hn.out; omega)
      clear k9 k0
      replace n4 := Lib.hid n4; replace f4 := Lib.hid f4; replace W0 := Lib.hid W0; replace F4 := Lib.hid F4; replace N4 := Lib.hid N4; replace CM := Lib.hid CM
      go_wp2_with fail
      go_loopg [5, 8] 40 (fun kk v5 v8 wr => ∃ (k : Nat) (l : List Int), kk + k = 40 ∧ v8 = .int .i64 k ∧ WoI T l k ∧ NInB (fun b => b ≠ bn) wr v5 l ∧ Fr [] w4 wr)
      case atStart => exact ⟨0, _, by omega, rfl, W0.out, n4.out, Fr.refl _ _⟩
      case round =>
        obtain ⟨k, l, hk2, rfl, hW, hl, hF4⟩ := hrel
        obtain ⟨wo, rfl⟩ : ∃ x : World, x = wr := ⟨_, rfl⟩
        obtain ⟨go, rfl⟩ : ∃ g : Nat, g = gk := ⟨_, rfl⟩
        have hl0 := hl
        obtain ⟨o, cl, rfl, hl1⟩ := hl
        have hlen := hW.toWaI.len hV.out
        rw [hn.out] at hlen
        by_cases hkl : k < l.length
        · as_aux_lemma =>
          have hklI : (k : Int) < l.length := by omega
          have hE := hW.enter hV.out hkl
          replace hW := Lib.hid hW; replace hl0 := Lib.hid hl0; replace hl1 := Lib.hid hl1; replace hF4 := Lib.hid hF4; replace hE := Lib.hid hE
          go_wp2_with fail
          go_loopg [5, 9] (m + 1) (fun kk v5 v9 wr => ∃ (e : Nat) (l : List Int), e ≤ m ∧ kk + e = m + 1 ∧ v9 = .int .i64 e ∧ WeI T l k e ∧ NInB (fun b => b ≠ bn) wr v5 l ∧ Fr [] w4 wr)
          case atStart => exact ⟨0, _, by omega, by omega, rfl, hE.out, hl0.out, hF4.out⟩
          have hk30 : k < 30 := by omega
          clear hW hl0 hl1 hF4 hE hlen hkl hklI
          case round =>
            obtain ⟨e, l, he, hk3, rfl, hE, hl, hF4⟩ := hrel
            obtain ⟨we, rfl⟩ : ∃ x : World, x = wr := ⟨_, rfl⟩
            have hl0 := hl
            obtain ⟨o, cl, rfl, hl1⟩ := hl
            have FQ := F4.out.trans hF4
            have k1 := (FQ.pt P2.out (by simp)).cell
            by_cases hlt2 : e < m
            · have hltI2 : (e : Int) < T.ev := by rw [hmI.out]; omega
              have hlt2I : (e : Int) < (m : Int) := by omega
              have hkl := hE.lt
              have hklI : (k : Int) < l.length := by omega
              have hmem := hE.mem _ (List.getElem_mem hkl)
              have hrng := (order_ok hV.out).rng _ hmem
              obtain ⟨a, ha⟩ : ∃ a : Nat, l[k] = (a : Int) := ⟨l[k].toNat, by omega⟩
              have hg : l.getD k 0 = (a : Int) := by rw [← ha, List.getD_eq_getElem?_getD, List.getElem?_eq_getElem hkl]; rfl
              obtain ⟨B1, f1, rfl, hB1, _, x1⟩ := hl1 k hkl
              rw [ha] at x1 hrng hmem
              have hanI : (a : Int) < (i : Int) := by have := hnI.out; omega
              obtain ⟨B2, off2, cap2, hBB, y1, y2, _⟩ := (hR.out.fr (F2.out.trans FQ)).at hV.out hmI.out a e hrng.2 hlt2
              have hE2 := hE.step hV.out hltI2
              rw [hg] at hE2
              have hat := hV.out.atOk hrng.1 hrng.2 (e := (e : Int)) (by omega) hltI2
              have GN : NInB (fun b => b ≠ bn) we.drew _ l := hl0.frq (Fr.refl [] we).drew (fun b _ h => ⟨by simp, h⟩)
              have GF := hF4.drew
              obtain ⟨nx, hnx⟩ : ∃ x, (T.at a e).1 = x := ⟨_, rfl⟩
              rw [hnx] at y2 hE2 hat
              by_cases h0 : 0 ≤ nx
              · rw [if_pos h0] at hE2
                obtain ⟨t, rfl⟩ : ∃ t : Nat, nx = (t : Int) := ⟨nx.toNat, by omega⟩
                have htn : t < i := by have := hnI.out; omega
                have C2 := CM.out we.drew _ l t GF GN hE.toWaI htn
                replace hE := Lib.hid hE; replace hl0 := Lib.hid hl0; replace hl1 := Lib.hid hl1; replace hF4 := Lib.hid hF4; replace FQ := Lib.hid FQ; replace hmem := Lib.hid hmem; replace hrng := Lib.hid hrng; replace ha := Lib.hid ha; replace hg := Lib.hid hg; replace hE2 := Lib.hid hE2; replace hat := Lib.hid hat; replace GN := Lib.hid GN; replace GF := Lib.hid GF; replace hnx := Lib.hid hnx; replace C2 := Lib.hid C2
                go_upto_region 15 with fail
                go_region
                go_wp2_with fail
                refine C2.out.mono ?_
                rintro e2 w6 ⟨v6, rfl, n6, f6⟩
                have G6 := GF.out.trans f6
                replace n6 := Lib.hid n6; replace f6 := Lib.hid f6; replace G6 := Lib.hid G6
                go_wp2_with fail
                go_roundg (gk - 1)
                case measure => omega
                case rel => exact ⟨e + 1, _, by omega, by omega, by go_num, hE2.out, n6.out, G6.out⟩
              · rw [if_neg h0] at hE2
                replace hE := Lib.hid hE; replace hl0 := Lib.hid hl0; replace hl1 := Lib.hid hl1; replace hF4 := Lib.hid hF4; replace FQ := Lib.hid FQ; replace hmem := Lib.hid hmem; replace hrng := Lib.hid hrng; replace ha := Lib.hid ha; replace hg := Lib.hid hg; replace hE2 := Lib.hid hE2; replace hat := Lib.hid hat; replace GN := Lib.hid GN; replace GF := Lib.hid GF; replace hnx := Lib.hid hnx
                go_upto_region 15 with fail
                go_region
                go_wp2_with fail
                go_roundg (gk - 1)
                case measure => omega
                case rel => exact ⟨e + 1, _, by omega, by omega, by go_num, hE2.out, GN.out, GF.out⟩
            · have hltI2 : ¬ (e : Int) < T.ev := by rw [hmI.out]; omega
              have hX := hE.exit hV.out hltI2
              replace hE := Lib.hid hE; replace hl0 := Lib.hid hl0; replace hl1 := Lib.hid hl1; replace hF4 := Lib.hid hF4; replace FQ := Lib.hid FQ; replace hX := Lib.hid hX
              go_wp2_with fail
              go_roundg (go - 1)
              case measure => omega
              case rel => exact ⟨k + 1, _, by omega, by go_num, hX.out, hl0.out, hF4.out⟩
        · as_aux_lemma =>
          have hklI : ¬ (k : Int) < l.length := by omega
          have hRho := hW.rho hV.out hkl
          have hln := hRho.len
          have hN0 := NuOk.start T
          rw [hn.out] at hN0
          have hNo := hF4.pt N4.out (by simp)
          have FQ := F4.out.trans hF4
          replace hW := Lib.hid hW; replace hl0 := Lib.hid hl0; replace hl1 := Lib.hid hl1; replace hF4 := Lib.hid hF4; replace hRho := Lib.hid hRho; replace hln := Lib.hid hln; replace hN0 := Lib.hid hN0; replace hNo := Lib.hid hNo; replace FQ := Lib.hid FQ
          go_wp2_with fail
          go_loopg [11] (i + 1) (fun kk v11 wr => ∃ (s : Nat) (N : List Int), s ≤ i ∧ kk + s = i + 1 ∧ v11 = .int .i64 s ∧ NuOk T N s 0 ∧ Pt wr bn 3 (ints N) ∧ Fr [bn] wo wr)
          case atStart => exact ⟨0, _, by omega, by omega, rfl, hN0.out, hNo.out, Fr.refl _ _⟩
          case round =>
            obtain ⟨s, N, hs, hk3, rfl, hU, hNp, hF5⟩ := hrel
            obtain ⟨ws, rfl⟩ : ∃ x : World, x = wr := ⟨_, rfl⟩
            obtain ⟨gs, rfl⟩ : ∃ g : Nat, g = gk := ⟨_, rfl⟩
            have k1 := (hF5.pt (FQ.out.pt P2.out (by simp)) (by have := lt1.out; simp; omega)).cell
            by_cases hlt2 : s < i
            · have hltI2 : (s : Int) < T.st := by rw [hnI.out]; omega
              have hsI2 : (s : Int) < (i : Int) := by omega
              replace hU := Lib.hid hU; replace hNp := Lib.hid hNp; replace hF5 := Lib.hid hF5
              go_wp2_with fail
              clear k1
              go_loopg [12] (l.length + 1) (fun kk v12 wr => ∃ (q : Nat) (N : List Int), q ≤ l.length ∧ kk + q = l.length + 1 ∧ v12 = .int .i64 q ∧ NuOk T N s q ∧ Pt wr bn 3 (ints N) ∧ Fr [bn] wo wr)
              case atStart => exact ⟨0, _, by omega, by omega, rfl, hU.out, hNp.out, hF5.out⟩
              clear hU hNp hF5
              case round =>
                obtain ⟨q, N, hq, hk4, rfl, hU, hNp, hF5⟩ := hrel
                obtain ⟨wq, rfl⟩ : ∃ x : World, x = wr := ⟨_, rfl⟩
                by_cases hlq : q < l.length
                · have hlqI : (q : Int) < l.length := by omega
                  have hmem := hRho.out.mem _ (List.getElem_mem hlq)
                  have hrng := (order_ok hV.out).rng _ hmem
                  obtain ⟨a, ha⟩ : ∃ a : Nat, l[q] = (a : Int) := ⟨l[q].toNat, by omega⟩
                  obtain ⟨B1, f1, rfl, hB1, hBq, x1⟩ := hl1.out q hlq
                  have x1 := (hF5.cell (p := ⟨B1, f1 + q, none⟩) hB1 (by simpa using hBq)).trans x1
                  rw [ha] at x1 hrng
                  have han : a < i := by have := hnI.out; omega
                  have hanI : (a : Int) < (i : Int) := by omega
                  have hAi := hAp.out a s han hlt2
                  obtain ⟨bq', oq', cq', e9, hbq, y1, z1⟩ := (hM.out.frx ((FQ.out.mono (by simp)).trans hF5 : Fr [bn] w2 wq) (fun x hx => by have := hbn.out; simp at hx; omega)).get a han
                  obtain ⟨⟨rfl, rfl⟩, rfl⟩ : (bq = bq' ∧ oq = oq') ∧ cq = cq' := by simpa using e9
                  replace z1 := z1 s hlt2
                  clear e9
                  cases hm2 : M a s
                  · rw [hm2] at z1 hAi
                    have hU2 := hU.yes hV.out hRho.out hltI2 hlq (by rw [ha]; exact fun h => by have := hAi.mpr h; cases this)
                    have hsl : s < N.length := by have := hU.1; have := hn.out; omega
                    have c9 := ints_get N s hsl
                    rw [← hNp.cell] at c9
                    have z9 := hNp.free s
                    have hNp2 := hNp.set s (.int .i64 (q : Int))
                    rw [ints_set] at hNp2
                    have GF : Fr [bn] wo (wq.setCell ⟨bn, s, none⟩ (.int .i64 (q : Int))) := hF5.setCell (.inl (by simp)) _
                    replace hU := Lib.hid hU; replace hNp := Lib.hid hNp; replace hF5 := Lib.hid hF5; replace hmem := Lib.hid hmem; replace hrng := Lib.hid hrng; replace ha := Lib.hid ha; replace hAi := Lib.hid hAi; replace hm2 := Lib.hid hm2; replace hU2 := Lib.hid hU2; replace hNp2 := Lib.hid hNp2; replace GF := Lib.hid GF; replace hbq := Lib.hid hbq
                    go_wp2_with fail
                    go_roundg (gk - 1)
                    case measure => omega
                    case rel => exact ⟨q + 1, _, by omega, by omega, by go_num, hU2.out, hNp2.out, GF.out⟩
                  · rw [hm2] at z1 hAi
                    have hU2 := hU.no hV.out hRho.out hltI2 hlq (by rw [ha]; exact hAi.mp rfl)
                    replace hU := Lib.hid hU; replace hNp := Lib.hid hNp; replace hF5 := Lib.hid hF5; replace hmem := Lib.hid hmem; replace hrng := Lib.hid hrng; replace ha := Lib.hid ha; replace hAi := Lib.hid hAi; replace hm2 := Lib.hid hm2; replace hU2 := Lib.hid hU2; replace hbq := Lib.hid hbq
                    go_wp2_with fail
                    go_roundg (gk - 1)
                    case measure => omega
                    case rel => exact ⟨q + 1, _, by omega, by omega, by go_num, hU2.out, hNp.out, hF5.out⟩
                · have hlqI : ¬ (q : Int) < l.length := by omega
                  have hU2 := hU.next hV.out (by have := hln.out; omega)
                  replace hU := Lib.hid hU; replace hNp := Lib.hid hNp; replace hF5 := Lib.hid hF5; replace hU2 := Lib.hid hU2
                  go_wp2_with fail
                  go_roundg (gs - 1)
                  case measure => omega
                  case rel => exact ⟨s + 1, _, by omega, by omega, by go_num, hU2.out, hNp.out, hF5.out⟩
            · have hltI2 : ¬ (s : Int) < T.st := by rw [hnI.out]; omega
              obtain rfl : s = i := by omega
              have hnn := hn.out
              have GF : Fr [] w2 ws := FQ.out.step hF5 (fun z hz => .inr (by have := hbn.out; simp at hz; omega))
              have GO : WkR T w (.returned (.tuple #[.slice o l.length cl, .slice (some ⟨bn, 0, none⟩) s s])) ws :=
                ⟨_, l, bn, N, by rw [hnn], (hl0.out.frq hF5 (q' := fun _ => True) (fun b _ h => ⟨by simpa using h, trivial⟩)).nin, hRho.out, hNp, by rw [hnn]; exact hU, F2.out.trans GF⟩
              replace hU := Lib.hid hU; replace hNp := Lib.hid hNp; replace hF5 := Lib.hid hF5; replace GO := Lib.hid GO; replace hnn := Lib.hid hnn; replace GF := Lib.hid GF
              go_wp2_with fail
              refine bodyPost_ret (v := .tuple #[.slice o l.length cl, .slice (some ⟨bn, 0, none⟩) s s]) (by simp [results, Try.results94, go_sem]) rfl GO.out
end Go.Proofs.Ytnggimkkjdipmaa
namespace Go.Proofs.Ytnggimkkjdipmaa
open Go.RowKit
set_option linter.unusedVariables false
set_option linter.unusedSimpArgs false
set_option maxHeartbeats 16000000
set_option maxRecDepth 100000
/-! ### The reference's least -/
/-- The reference's least, half done. -/
structure RlI (w : World) (b3 : Nat) (st ev sr : Int) (rows : List (List (Int × Int))) (wr : World) (i : Nat) (r' : Value) (us : List Value) (bo : Option Nat) : Prop where
  p3 : Pt wr b3 RTab [.int .i64 st, .int .i64 ev, .int .i64 sr, r']
  row : Row 1 wr r' us.length us bo
  len : us.length = i
  out : ∀ z, bo = some z → b3 < z
  pin : ∀ k (h : k < us.length) (h2 : k < rows.length), PInB (fun b => b3 < b ∧ b ∉ bo.toList) wr us[k] rows[k]
  fr : Fr [] w wr
theorem RlI.next {w : World} {b3 : Nat} {st ev sr : Int} {rows : List (List (Int × Int))} {wo wr w6 : World} {i : Nat} {r' v5 v6 : Value} {us : List Value} {bo bo2 bo6 : Option Nat}
    (h : RlI w b3 st ev sr rows wo i r' us bo) (hi : i < rows.length) (hw : w.heap.size ≤ b3) (hF : Fr [] wo wr)
    (hrw : Row 2 wr v5 (rows[i]).length (pcells rows[i]) bo2) (hbo2 : ∀ z, bo2 = some z → wo.heap.size ≤ z)
    (hr6 : Row 1 w6 v6 (us ++ [v5]).length (us ++ [v5]) bo6) (hb6 : bo6 = bo ∨ ∃ z, bo6 = some z ∧ wr.heap.size ≤ z) (f6 : Fr bo.toList wr w6) :
    RlI w b3 st ev sr rows (w6.setCell ⟨b3, 3, none⟩ v6) (i + 1) v6 (us ++ [v5]) bo6 := by
  have l3 := h.p3.lt
  have hsz := hF.size
  have fs : Fr [b3] w6 (w6.setCell ⟨b3, 3, none⟩ v6) := (Fr.refl _ _).setCell (by simp) _
  have FA : Fr (b3 :: bo.toList) wo (w6.setCell ⟨b3, 3, none⟩ v6) := ((hF.mono (by simp)).trans (f6.mono (fun x hx => by simp [hx]))).trans (fs.mono (by simp))
  have hbm : ∀ z ∈ bo.toList, b3 < z ∧ z < wo.heap.size := fun z hz => by
    have hz' : bo = some z := by simpa using hz
    have := h.row
    rw [hz'] at this
    exact ⟨h.out z hz', this.lt⟩
  have hb6' : ∀ z, bo6 = some z → b3 < z := fun z hz => by
    rcases hb6 with e | ⟨z', e, h2⟩
    · exact h.out z (by rw [← e]; exact hz)
    · rw [hz] at e; cases e; omega
  have hnew : ∀ b, b < wr.heap.size → b ∉ bo.toList → b ∉ bo6.toList := fun b hb hn hm => by
    have hm' : bo6 = some b := by simpa using hm
    rcases hb6 with e | ⟨z', e, h2⟩
    · exact hn (by rw [← e]; exact hm)
    · rw [hm'] at e; cases e; omega
  refine ⟨(f6.pt (hF.pt h.p3 (by simp)) (fun hm => ?_)).set' rfl, hr6.fr fs (fun z hz hm => ?_), by rw [List.length_append, h.len]; rfl, hb6', fun k hk hk2 => ?_, ?_⟩
  · have := (hbm _ hm).1; omega
  · have := hb6' z hz
    simp at hm; omega
  · by_cases e : k < us.length
    · rw [List.getElem_append_left e]
      refine (h.pin k e hk2).fr FA (fun b hb hq => ⟨fun hm => ?_, hq.1, hnew b (by omega) hq.2⟩)
      rcases List.mem_cons.mp hm with e2 | e2
      · omega
      · exact hq.2 e2
    · have hki : k = us.length := by simp at hk; omega
      have hki2 : k = i := by rw [hki, h.len]
      subst hki2
      rw [List.getElem_append_right (by omega)]
      have : (us ++ [v5])[k]'hk = v5 := by
        rw [List.getElem_append_right (by omega)]; simp [hki]
      have e5 : [v5][k - us.length]'(by simp at hk; simp; omega) = v5 := by simp
      rw [e5]
      have hp : PInB (fun b => wo.heap.size ≤ b) wr v5 rows[k] := hrw.pinb hbo2
      have FB : Fr (b3 :: bo.toList) wr (w6.setCell ⟨b3, 3, none⟩ v6) := (f6.mono (fun x hx => by simp [hx])).trans (fs.mono (by simp))
      refine hp.fr FB (fun b hb hq => ⟨fun hm => ?_, by omega, hnew b hb (fun hm => ?_)⟩)
      · rcases List.mem_cons.mp hm with e2 | e2
        · omega
        · have := (hbm _ e2).2; omega
      · have := (hbm _ hm).2; omega
  · refine h.fr.step FA (fun x hx => .inr ?_)
    rcases List.mem_cons.mp hx with e | e
    · omega
    · have := (hbm _ e).1; omega
theorem RlI.rinb {w : World} {b3 : Nat} {st ev sr : Int} {rows : List (List (Int × Int))} {wr w' : World} {r' : Value} {us : List Value} {bo : Option Nat}
    (h : RlI w b3 st ev sr rows wr rows.length r' us bo) {b2 : Nat} (h23 : b2 < b3) (hf : Fr [b2] wr w') : RInB (fun b => b3 < b) w' r' rows := by
  have hr := h.row.fr hf (fun z hz hm => by have := h.out z hz; simp at hm; omega)
  have hlen := h.len
  have hp : ∀ k (hk : k < us.length) (hk2 : k < rows.length), PInB (fun b => b3 < b) w' us[k] rows[k] := fun k hk hk2 => ((h.pin k hk hk2).fr hf (fun b _ hq => ⟨fun hm => by have := hq.1; simp at hm; omega, hq.1⟩))
  rcases hr with ⟨_, h2, _, o, rfl⟩ | ⟨b, off, cap, hb, rfl, h3, h4, _, _, h7⟩
  · exact ⟨o, 0, by rw [← hlen, h2], fun i hi => by omega⟩
  · refine ⟨_, cap, by rw [hlen], fun i hi => ⟨b, off, us[i]'(by omega), rfl, h4, h.out b hb, ?_, hp i (by omega) hi⟩⟩
    rw [h7 i (by omega), List.getElem?_eq_getElem (by omega)]
theorem rl_row {T : Tb} (hV : VT T) {m : Nat} (hm : T.ev = (m : Int)) (N : List Int) (a : Nat) (ha : (a : Int) < T.st) : ((T.rows.getD a []).map (rlR N)).length = m ∧ ∀ j (h : j < ((T.rows.getD a []).map (rlR N)).length), ((T.rows.getD a []).map (rlR N))[j] = rlR N (T.at a j) := by
  obtain ⟨_, _, h3⟩ := row_at hV (s := (a : Int)) ⟨by omega, ha⟩
  rw [Int.toNat_natCast] at h3
  refine ⟨by rw [List.length_map]; omega, fun j hj => ?_⟩
  have hj' : j < (T.rows.getD a []).length := by rw [List.length_map] at hj; exact hj
  rw [List.getElem_map]
  congr 1
  unfold Tb.at
  rw [Int.toNat_natCast, Int.toNat_natCast, List.getD_eq_getElem?_getD (i := j), List.getElem?_eq_getElem hj']; rfl
def RlR (T : Tb) (w : World) (e : Ending) (w' : World) : Prop := ∃ r', e = .returned (.agg #[.int .i64 (leastT T).st, .int .i64 (leastT T).ev, .int .i64 (leastT T).sr, r']) ∧ RInB (fun b => w.heap.size ≤ b) w' r' (leastT T).rows ∧ Fr [] w w'
theorem rleast_any (T : Tb) (v : Value) (w : World) (hT : TIn w v T) (hV : VT T) :
    Calls Try.prog 74 #[v] w (RlR T w) := by
  obtain ⟨r, rfl, hR⟩ := hT
  have hst := hV.st; have hev := hV.ev
  obtain ⟨n, hn⟩ : ∃ n : Nat, T.st.toNat = n := ⟨_, rfl⟩
  obtain ⟨m, hm⟩ : ∃ n : Nat, T.ev.toNat = n := ⟨_, rfl⟩
  have hnI : T.st = (n : Int) := by omega
  have hmI : T.ev = (m : Int) := by omega
  have hn30 : n ≤ 30 := by omega
  have hm30 : m ≤ 12 := by omega
  obtain ⟨BB, off, cap, rfl⟩ := hR.addr hV hnI
  rw [show T.val (.slice (some ⟨BB, off, none⟩) n cap) = .agg #[.int .i64 T.st, .int .i64 T.ev, .int .i64 T.sr, .slice (some ⟨BB, off, none⟩) n cap] from rfl]
  obtain ⟨w1, hw1⟩ : ∃ x, w.alloc (.cells #[.int .i64 T.st, .int .i64 T.ev, .int .i64 T.sr, .slice (some ⟨BB, off, none⟩) n cap] RTab) = x := ⟨_, rfl⟩
  have P1 := Pt.newA w RTab #[.int .i64 T.st, .int .i64 T.ev, .int .i64 T.sr, .slice (some ⟨BB, off, none⟩) n cap]
  rw [hw1] at P1
  have F1 : Fr [] w w1 := by rw [← hw1]; exact (Fr.refl [] w).alloc _
  obtain ⟨b1, hb1⟩ : ∃ x, w.heap.size = x := ⟨_, rfl⟩
  rw [hb1] at P1
  obtain ⟨w2, hw2⟩ : ∃ x, w1.alloc (.cells #[.int .i64 0, .int .i64 0, .int .i64 0, .slice none 0 0] RTab) = x := ⟨_, rfl⟩
  have P2 := Pt.newA w1 RTab #[.int .i64 0, .int .i64 0, .int .i64 0, .slice none 0 0]
  rw [hw2] at P2
  have F2 : Fr [] w1 w2 := by rw [← hw2]; exact (Fr.refl [] w1).alloc _
  obtain ⟨b2, hb2⟩ : ∃ x, w1.heap.size = x := ⟨_, rfl⟩
  rw [hb2] at P2
  have WC := rwalk_any T _ w2 ⟨_, rfl, hR.fr (F1.trans F2)⟩ hV
  rw [show T.val (.slice (some ⟨BB, off, none⟩) n cap) = .agg #[.int .i64 T.st, .int .i64 T.ev, .int .i64 T.sr, .slice (some ⟨BB, off, none⟩) n cap] from rfl] at WC
  have Q1 := F2.pt P1 (by simp)
  have k1 := Q1.cell
  have lt12 : b1 < b2 := by have := P1.lt; omega
  replace hR := Lib.hid hR; replace hV := Lib.hid hV; replace WC := Lib.hid WC; replace hn := Lib.hid hn; replace hm := Lib.hid hm; replace hnI := Lib.hid hnI; replace hmI := Lib.hid hmI; replace hst := Lib.hid hst; replace hev := Lib.hid hev; replace P1 := Lib.hid P1; replace F1 := Lib.hid F1; replace P2 := Lib.hid P2; replace F2 := Lib.hid F2; replace Q1 := Lib.hid Q1
  go_enter Try.func74, Try.ntmps74
  go_wp2_with fail
  refine WC.out.mono ?_
  rintro e w3 ⟨lv, l, bn, N, rfl, hl, hRho, hNp, hNu, f3⟩
  rw [hn.out] at hNu ⊢
  have F3 := (F1.out.trans F2.out).trans f3
  have Q1' := f3.pt Q1.out (by simp)
  have Q2' := f3.pt P2.out (by simp)
  clear k1 hb1 hw1 hw2
  replace hb2 := Lib.hid hb2
  have k1 := Q1'.cell
  have hlen := hRho.len
  have hst' : (leastT T).st = (l.length : Int) := by rw [hlen]; rfl
  have hl0 := hl
  obtain ⟨o, cl, rfl, hl1⟩ := hl
  have ln30 : l.length ≤ 30 := by
    have := (mems_ok hV.out).len
    have := hn.out
    omega
  have hrows := rho_rows hV.out hRho (by rw [hn.out]; exact hNu)
  obtain ⟨w4, hw4⟩ : ∃ x, w3.alloc (.cells #[.int .i64 l.length, .int .i64 T.ev, .int .i64 0, .slice none 0 0] RTab) = x := ⟨_, rfl⟩
  have P4 := Pt.newA w3 RTab #[.int .i64 l.length, .int .i64 T.ev, .int .i64 0, .slice none 0 0]
  rw [hw4] at P4
  have F4 : Fr [] w3 w4 := by rw [← hw4]; exact (Fr.refl [] w3).alloc _
  obtain ⟨b3, hb3⟩ : ∃ x, w3.heap.size = x := ⟨_, rfl⟩
  rw [hb3] at P4
  have lt3 : b2 < b3 := by have := Q2'.lt; omega
  have hw34 : w3.heap.size ≤ b3 := by omega
  have I0 : RlI w3 b3 l.length T.ev 0 (leastRows T) w4 0 (.slice none 0 0) [] none := ⟨P4, Row.nil 1 _ none, rfl, by simp, by simp, F4⟩
  have hw4' := hw4
  clear hw4
  replace hw4' := Lib.hid hw4'; replace hb3 := Lib.hid hb3; replace hl0 := Lib.hid hl0; replace hl1 := Lib.hid hl1; replace hRho := Lib.hid hRho; replace hNp := Lib.hid hNp; replace hNu := Lib.hid hNu; replace f3 := Lib.hid f3; replace F3 := Lib.hid F3; replace hlen := Lib.hid hlen; replace hst' := Lib.hid hst'; replace hrows := Lib.hid hrows; replace P4 := Lib.hid P4; replace F4 := Lib.hid F4; replace Q1' := Lib.hid Q1'; replace Q2' := Lib.hid Q2'; replace I0 := Lib.hid I0
  go_wp2_with fail
  rw [hb3.out, hw4'.out]
  go_loopg [6] (l.length + 1) (fun kk v6 wr => ∃ (k : Nat) (r' : Value) (us : List Value) (bo : Option Nat), k ≤ l.length ∧ kk + k = l.length + 1 ∧ v6 = .int .i64 k ∧ RlI w3 b3 l.length T.ev 0 (leastRows T) wr k r' us bo)
  case atStart => exact ⟨0, _, _, _, by omega, by omega, rfl, I0.out⟩
  case round =>
    obtain ⟨k, r', us, bo, hk, hk1, rfl, hI⟩ := hrel
    obtain ⟨wo, rfl⟩ : ∃ x : World, x = wr := ⟨_, rfl⟩
    obtain ⟨go, rfl⟩ : ∃ g : Nat, g = gk := ⟨_, rfl⟩
    have hrl : (leastRows T).length = l.length := by have := congrArg List.length hrows.out; rw [List.length_map] at this; exact this.symm
    have FI := F3.out.trans hI.fr
    by_cases hlt : k < l.length
    · as_aux_lemma =>
      have hltI : (k : Int) < l.length := by omega
      have hmem := hRho.out.mem _ (List.getElem_mem hlt)
      have hrng := (order_ok hV.out).rng _ hmem
      obtain ⟨a, ha⟩ : ∃ a : Nat, l[k] = (a : Int) := ⟨l[k].toNat, by omega⟩
      obtain ⟨B1, f1, rfl, hB1, x1⟩ := hl1.out k hlt
      rw [ha] at x1 hrng hmem
      have hanI : (a : Int) < (n : Int) := by have := hnI.out; omega
      have hrow : (leastRows T)[k]'(by omega) = (T.rows.getD a []).map (rlR N) := by
        have h1 : (leastRows T)[k]? = (l.map (fun s => (T.rows.getD s.toNat []).map (rlR N)))[k]? := by rw [hrows.out]
        rw [List.getElem?_map, List.getElem?_eq_getElem hlt, List.getElem?_eq_getElem (by omega)] at h1
        simp only [Option.map_some, Option.some.injEq, ha, Int.toNat_natCast] at h1
        exact h1
      obtain ⟨hrlen, hrat⟩ := rl_row hV.out hmI.out N a hrng.2
      obtain ⟨row, hrw⟩ : ∃ x, (T.rows.getD a []).map (rlR N) = x := ⟨_, rfl⟩
      rw [hrw] at hrow
      have hrlen2 : row.length = m := by rw [← hrw]; exact hrlen
      have hrat2 : ∀ j (h : j < row.length), row[j] = rlR N (T.at a j) := by
        intro j h
        have h' : j < ((T.rows.getD a []).map (rlR N)).length := by rw [hrw]; exact h
        rw [← hrat j h']
        congr 1
        exact hrw.symm
      have hmem2 := hmem
      clear hrlen hrat
      have x1o := x1
      replace hI := Lib.hid hI; replace hmem := Lib.hid hmem; replace hrng := Lib.hid hrng; replace ha := Lib.hid ha; replace x1o := Lib.hid x1o; replace hrow := Lib.hid hrow; replace hrlen2 := Lib.hid hrlen2; replace hrat2 := Lib.hid hrat2; replace hrw := Lib.hid hrw; replace hrl := Lib.hid hrl; replace FI := Lib.hid FI; replace hmem2 := Lib.hid hmem2
      clear x1
      go_wp2_with fail
      go_loopg [7, 8] (m + 1) (fun kk v7 v8 wi => ∃ (j : Nat) (bo2 : Option Nat), j ≤ m ∧ kk + j = m + 1 ∧ v8 = .int .i64 j ∧ Row 2 wi v7 (row.take j).length (pcells (row.take j)) bo2 ∧ (∀ z, bo2 = some z → wo.heap.size ≤ z) ∧ Fr [] wo wi)
      case atStart => exact ⟨0, none, by omega, by omega, rfl, Row.nil 2 _ none, by simp, Fr.refl _ _⟩
      case round =>
        obtain ⟨j, bo2, hj, hk2, rfl, hr2, hbo2, hF⟩ := hrel
        obtain ⟨wi, rfl⟩ : ∃ x : World, x = wr := ⟨_, rfl⟩
        have FW := hI.out.fr.trans hF
        have F3i := FW
        have k1 := (FW.pt Q1'.out (by simp)).cell
        by_cases hlj : j < m
        · have hljI : (j : Int) < T.ev := by rw [hmI.out]; omega
          have hljM : (j : Int) < (m : Int) := by omega
          obtain ⟨B2, off2, cap2, hBB, y1, y2, y3⟩ := (hR.out.fr (F3.out.trans F3i)).at hV.out hmI.out a j hrng.out.2 hlj
          have x1 := (F3i.cell (p := ⟨B1, f1 + k, none⟩) hB1 (by simp)).trans x1o.out
          have hat := hV.out.atOk hrng.out.1 hrng.out.2 (e := (j : Int)) (by omega) hljI
          have hjr := hrat2.out j (by have := hrlen2.out; omega)
          obtain ⟨⟨nx, ou⟩, hnx⟩ : ∃ x, T.at a j = x := ⟨_, rfl⟩
          rw [hnx] at y2 y3 hat hjr
          dsimp only at y2 y3 hat
          obtain ⟨o7, c7, rfl⟩ := hr2.len
          have hjl : (row.take j).length = j := by rw [List.length_take, hrlen2.out]; omega
          rw [hjl]
          have KW : ∀ W, Fr [] wi W → (W.cell? ⟨b1, 3, none⟩ = some (.slice (some ⟨BB, off, none⟩) n cap) ∧ W.cell? ⟨B1, f1 + k, none⟩ = some (.int .i64 (a : Int)) ∧ W.cell? ⟨BB, off + a, none⟩ = some (.slice (some ⟨B2, off2, none⟩) m cap2) ∧ W.cell? ⟨B2, off2 + j * 2, none⟩ = some (.int .i64 nx) ∧ W.cell? ⟨B2, off2 + j * 2 + 1, none⟩ = some (.int .i64 ou)) := fun W fw => by
            have g := hR.out.fr ((F3.out.trans F3i).trans fw)
            obtain ⟨B2', off2', cap2', hBB', y1', y2', y3'⟩ := g.at hV.out hmI.out a j hrng.out.2 hlj
            rw [(fw.cell (p := ⟨BB, off + a, none⟩) hBB (by simp))] at y1'
            rw [y1] at y1'
            obtain ⟨⟨rfl, rfl⟩, rfl⟩ : (B2 = B2' ∧ off2 = off2') ∧ cap2 = cap2' := by simpa using y1'
            rw [hnx] at y2' y3'
            exact ⟨(fw.pt (FW.pt Q1'.out (by simp)) (by simp)).cell 3, (fw.cell (p := ⟨B1, f1 + k, none⟩) (Nat.lt_of_lt_of_le hB1 F3i.size) (by simp)).trans x1, (fw.cell (p := ⟨BB, off + a, none⟩) hBB (by simp)).trans y1, y2', y3'⟩
          replace hr2 := Lib.hid hr2; replace hbo2 := Lib.hid hbo2; replace hF := Lib.hid hF; replace FW := Lib.hid FW; replace F3i := Lib.hid F3i; replace hat := Lib.hid hat; replace hjr := Lib.hid hjr; replace hnx := Lib.hid hnx; replace hjl := Lib.hid hjl; replace KW := Lib.hid KW
          go_upto_region 10 with fail
          go_region_held3 (fun W => W.cell? ⟨b1, 3, none⟩ = some (.slice (some ⟨BB, off, none⟩) n cap) ∧ W.cell? ⟨B1, f1 + k, none⟩ = some (.int .i64 (a : Int)) ∧ W.cell? ⟨BB, off + a, none⟩ = some (.slice (some ⟨B2, off2, none⟩) m cap2) ∧ W.cell? ⟨B2, off2 + j * 2, none⟩ = some (.int .i64 nx) ∧ W.cell? ⟨B2, off2 + j * 2 + 1, none⟩ = some (.int .i64 ou))
            (first | exact KW.out _ (Fr.refl _ _).drew | exact KW.out _ (((Fr.refl _ _).alloc _).drew) | exact KW.out _ (((Fr.refl _ _).drew).alloc _) | exact KW.out _ (Fr.refl _ _))
            (fail)
          obtain ⟨wx, hwx⟩ : ∃ x, (wi.alloc (.cells #[.int .i64 nx, .int .i64 ou] RRow)).drew = x := ⟨_, rfl⟩
          have P9 : Pt wx wi.heap.size RRow [.int .i64 nx, .int .i64 ou] := by rw [← hwx]; exact (Pt.newA wi RRow #[.int .i64 nx, .int .i64 ou]).drew
          have F9 : Fr [] wi wx := by rw [← hwx]; exact ((Fr.refl [] wi).alloc _).drew
          obtain ⟨q, hq⟩ : ∃ x, wi.heap.size = x := ⟨_, rfl⟩
          rw [hwx, hq]
          rw [hq] at P9
          have hwoq : wo.heap.size ≤ q := by have := hF.out.size; omega
          have k9 := P9.cell
          have z9 := P9.free
          have hr3 := hr2.out.fr F9 (by simp)
          rw [hjl.out] at hr3
          have NEXT : ∀ (w7 : World) (v7 : Value) (y : Int × Int) (bo3 : Option Nat), rlR N (nx, ou) = y → Row 2 w7 v7 (row.take j ++ [y]).length (pcells (row.take j ++ [y])) bo3 → Row 2 w7 v7 (row.take (j + 1)).length (pcells (row.take (j + 1))) bo3 := fun w7 v7 y bo3 hy hr => by
            rw [List.take_succ_eq_append_getElem (by have := hrlen2.out; omega), hjr.out, hy]; exact hr
          clear KW x1 y1 y2 y3 k1
          by_cases h0 : 0 ≤ nx
          · as_aux_lemma =>
            obtain ⟨t, rfl⟩ : ∃ t : Nat, nx = (t : Int) := ⟨nx.toNat, by omega⟩
            have htn : t < N.length := by have := hNu.out.1; have := hn.out; have := hat.out; have := hnI.out; omega
            have htnI : (t : Int) < (n : Int) := by have := hat.out; have := hnI.out; omega
            obtain ⟨y, hy⟩ : ∃ x, gI N t = x := ⟨_, rfl⟩
            have c1 := ((FW.out.trans F9).pt hNp.out (by simp)).cell t
            rw [ints_get N t htn, hy] at c1
            obtain ⟨wy, hwy⟩ : ∃ x, wx.setCell ⟨q, 0, none⟩ (.int .i64 y) = x := ⟨_, rfl⟩
            have Py : Pt wy q RRow [.int .i64 y, .int .i64 ou] := by rw [← hwy]; exact P9.set' rfl
            have Fy : Fr [] wi wy := by rw [← hwy]; exact F9.setCell (.inr (by rw [hq]; exact Nat.le_refl _)) _
            have ky := Py.cell
            have hry : rlR N ((t : Int), ou) = (y, ou) := by unfold rlR; rw [if_pos h0]; dsimp only; rw [hy]
            have hr4 := hr2.out.fr Fy (by simp)
            rw [hjl.out] at hr4
            obtain ⟨v', w7, bo3, happ, hr7, hb7, f7⟩ := (Row.fr' (hr2.out.fr Fy (by simp)) rfl (Fr.refl [] wy) (by simp)).oneRR (by rw [hjl.out]; omega) (y, ou)
            have hr7' := NEXT _ _ _ _ hry hr7
            have hbo3 : ∀ z, bo3 = some z → wo.heap.size ≤ z := fun z hz => by
              rcases hb7 with h | ⟨z', h, h2⟩
              · exact hbo2.out z (by rw [← h]; exact hz)
              · rw [hz] at h; cases h
                have := hF.out.size; have := Fy.size
                omega
            have F7 : Fr [] wo w7 := (hF.out.trans Fy).step f7 (fun z hz => .inr (hbo2.out z (by simpa using hz)))
            rw [hjl.out] at happ
            dsimp only at happ
            clear hr3
            replace hwx := Lib.hid hwx; replace P9 := Lib.hid P9; replace F9 := Lib.hid F9; replace hq := Lib.hid hq; replace hwy := Lib.hid hwy; replace Py := Lib.hid Py; replace Fy := Lib.hid Fy; replace hry := Lib.hid hry; replace hr4 := Lib.hid hr4; replace happ := Lib.hid happ; replace hr7 := Lib.hid hr7; replace hb7 := Lib.hid hb7; replace f7 := Lib.hid f7; replace hr7' := Lib.hid hr7'; replace hbo3 := Lib.hid hbo3; replace F7 := Lib.hid F7; replace NEXT := Lib.hid NEXT; replace hwoq := Lib.hid hwoq; replace hy := Lib.hid hy
            go_upto_region 13 with fail
            rw [hwy.out]
            clear k9 z9 c1
            go_wp2_with (first | (at_builtin; refine wpList_append_run _ rfl _ _ _ rfl rfl rfl happ.out ?_))
            go_roundg (gk - 1)
            case measure => omega
            case rel => exact ⟨j + 1, bo3, by omega, by omega, by go_num, hr7'.out, hbo3.out, F7.out⟩
          · as_aux_lemma =>
            have hry : rlR N (nx, ou) = (nx, ou) := by unfold rlR; rw [if_neg h0]
            obtain ⟨v', w7, bo3, happ, hr7, hb7, f7⟩ := (hr2.out.fr F9 (by simp)).oneRR (by rw [hjl.out]; omega) (nx, ou)
            have hr7' := NEXT _ _ _ _ hry hr7
            have hbo3 : ∀ z, bo3 = some z → wo.heap.size ≤ z := fun z hz => by
              rcases hb7 with h | ⟨z', h, h2⟩
              · exact hbo2.out z (by rw [← h]; exact hz)
              · rw [hz] at h; cases h
                have := hF.out.size; have := F9.size
                omega
            have F7 : Fr [] wo w7 := (hF.out.trans F9).step f7 (fun z hz => .inr (hbo2.out z (by simpa using hz)))
            rw [hjl.out] at happ
            dsimp only at happ
            clear hr3
            replace hwx := Lib.hid hwx; replace P9 := Lib.hid P9; replace F9 := Lib.hid F9; replace hq := Lib.hid hq; replace hry := Lib.hid hry; replace happ := Lib.hid happ; replace hr7 := Lib.hid hr7; replace hb7 := Lib.hid hb7; replace f7 := Lib.hid f7; replace hr7' := Lib.hid hr7'; replace hbo3 := Lib.hid hbo3; replace F7 := Lib.hid F7; replace NEXT := Lib.hid NEXT; replace hwoq := Lib.hid hwoq
            go_wp2_with (first | (at_builtin; refine wpList_append_run _ rfl _ _ _ rfl rfl rfl happ.out ?_))
            go_roundg (gk - 1)
            case measure => omega
            case rel => exact ⟨j + 1, bo3, by omega, by omega, by go_num, hr7'.out, hbo3.out, F7.out⟩
        · as_aux_lemma =>
          have hljI : ¬ (j : Int) < T.ev := by rw [hmI.out]; omega
          have hjr : row.take j = row := List.take_of_length_le (by have := hrlen2.out; omega)
          rw [hjr] at hr2
          have hlen5 := hI.out.len
          obtain ⟨o7, c7, rfl⟩ := hr2.len
          obtain ⟨v6, w6, bo6, happ, hr6, hb6, f6⟩ := (hI.out.row.fr hF (by simp)).oneRRs (by rw [hlen5]; omega) (.slice o7 row.length c7) rfl
          obtain ⟨o6, c6, rfl⟩ := hr6.len
          have p3 := hF.pt hI.out.p3 (by simp)
          have c3 := p3.cell
          have hb3n : b3 ∉ bo.toList := fun hm => by have := hI.out.out b3 (by simpa using hm); omega
          have p36 := f6.pt p3 hb3n
          have c36 := p36.cell
          have z36 := p36.free
          have NX := hI.out.next (by rw [hrl.out]; exact hlt) hw34 hF (by rw [hrow.out]; exact hr2) hbo2 hr6 hb6 f6
          simp only [List.length_append, List.length_cons, List.length_nil, Nat.zero_add] at NX happ
          replace NX := Lib.hid NX; replace happ := Lib.hid happ; replace hr6 := Lib.hid hr6; replace hb6 := Lib.hid hb6; replace f6 := Lib.hid f6; replace p3 := Lib.hid p3; replace p36 := Lib.hid p36; replace hb3n := Lib.hid hb3n; replace hlen5 := Lib.hid hlen5; replace hr2 := Lib.hid hr2; replace hjr := Lib.hid hjr; replace hbo2 := Lib.hid hbo2; replace hF := Lib.hid hF; replace FW := Lib.hid FW; replace F3i := Lib.hid F3i
          go_wp2_with (first | (at_builtin; refine wpList_append_run _ rfl _ _ _ rfl rfl rfl happ.out ?_))
          go_roundg (go - 1)
          case measure => omega
          case rel => exact ⟨k + 1, _, _, _, by omega, by omega, by go_num, NX.out⟩
    · have hltI : ¬ (k : Int) < l.length := by omega
      have hke : k = l.length := by omega
      obtain ⟨oe, ce, rfl⟩ := hI.row.len
      have c2 := (hI.fr.pt Q2'.out (by simp)).cell
      have z2 := (hI.fr.pt Q2'.out (by simp)).free
      have c3 := hI.p3.cell
      subst hke
      have FE : Fr [b2] wo ((((wo.setCell ⟨b2, 0, none⟩ (.int .i64 l.length)).setCell ⟨b2, 1, none⟩ (.int .i64 T.ev)).setCell ⟨b2, 2, none⟩ (.int .i64 0)).setCell ⟨b2, 3, none⟩ (.slice oe us.length ce)) :=
        ((((Fr.refl [b2] wo).setCell (by simp) _).setCell (by simp) _).setCell (by simp) _).setCell (by simp) _
      have hI2 := hI
      rw [← hrl] at hI2
      have RE := (hI2.rinb lt3 FE).fr (Fr.refl [] _) (q' := fun b => w.heap.size ≤ b) (fun b _ hq => ⟨by simp, by have := F3.out.size; omega⟩)
      have FF : Fr [] w _ := (F3.out.trans hI.fr).step FE (fun z hz => .inr (by simp at hz; have := F1.out.size; have := hb2.out; omega))
      have GO : RlR T w (.returned (.agg #[.int .i64 l.length, .int .i64 T.ev, .int .i64 0, .slice oe us.length ce])) _ := ⟨.slice oe us.length ce, by rw [hst'.out]; rfl, RE, FF⟩
      replace hI := Lib.hid hI; replace hI2 := Lib.hid hI2; replace RE := Lib.hid RE; replace FF := Lib.hid FF; replace FE := Lib.hid FE; replace GO := Lib.hid GO; replace FI := Lib.hid FI
      go_wp2_with fail
      refine bodyPost_ret (v := .agg #[.int .i64 l.length, .int .i64 T.ev, .int .i64 0, .slice oe us.length ce]) (by simp [results, Try.results74, go_sem, c2]) rfl GO.out
end Go.Proofs.Ytnggimkkjdipmaa
namespace Go.Proofs.Ytnggimkkjdipmaa
open Go.RowKit
set_option linter.unusedVariables false
set_option linter.unusedSimpArgs false
set_option maxHeartbeats 16000000
set_option maxRecDepth 100000
/-! ### The reference's tell -/
structure TrI (wr : World) (v : Value) (ps : List (Value × List Int)) (L : List (List Int)) (m : Nat) : Prop where
  ws : WSl wr v ps
  eq : wds ps = onceF L
  len : ps.length ≤ m
  sh : ∀ x ∈ L, x.length ≤ 60
theorem TrI.short {wr : World} {v : Value} {ps : List (Value × List Int)} {L : List (List Int)} {m : Nat} (h : TrI wr v ps L m) : ∀ p ∈ ps, p.2.length ≤ 900000 := fun p hp => by
  have : p.2 ∈ wds ps := by unfold wds; exact List.mem_map.mpr ⟨p, hp, rfl⟩
  rw [h.eq, onceF_mem] at this
  have := h.sh _ this
  omega
theorem TrI.asc {wr : World} {v : Value} {ps : List (Value × List Int)} {L : List (List Int)} {m : Nat} (h : TrI wr v ps L m) : Asc (wds ps) := by rw [h.eq]; exact onceF_asc L
theorem rtell_any (T : Tb) (r : Value) (w : World) (hR : RIn w r T.rows) (hV : VT T) :
    Calls Try.prog 78 #[T.val r] w (PutR (onceF (tellAll T T.st.toNat)) w) := by
  rw [show T.val r = .agg #[.int .i64 T.st, .int .i64 T.ev, .int .i64 T.sr, r] from rfl]
  obtain ⟨w1, hw1⟩ : ∃ x, w.alloc (.cells #[.int .i64 T.st, .int .i64 T.ev, .int .i64 T.sr, r] RTab) = x := ⟨_, rfl⟩
  have P1 := Pt.newA w RTab #[.int .i64 T.st, .int .i64 T.ev, .int .i64 T.sr, r]
  rw [hw1] at P1
  have F1 : Fr [] w w1 := by rw [← hw1]; exact (Fr.refl [] w).alloc _
  obtain ⟨b1, hb1⟩ : ∃ x, w.heap.size = x := ⟨_, rfl⟩
  rw [hb1] at P1
  have k1 := P1.cell
  dsimp only at k1
  obtain ⟨n, hn⟩ : ∃ n : Nat, T.st.toNat = n := ⟨_, rfl⟩
  have hst := hV.st
  have hnI : T.st = (n : Int) := by omega
  have hn30 : n ≤ 30 := by omega
  have DC : ∀ W (a b : Nat), Fr [] w W → a < n → b < n → Calls Try.prog 63 #[.agg #[.int .i64 T.st, .int .i64 T.ev, .int .i64 T.sr, r], .agg #[.int .i64 T.st, .int .i64 T.ev, .int .i64 T.sr, r], .int .i64 a, .int .i64 b] W (DiffR (differT T T a b) W) := fun W a b f ha hb =>
    rdiffer_any T T (T.val r) (T.val r) a b W ⟨r, rfl, hR.fr f⟩ ⟨r, rfl, hR.fr f⟩ hV hV rfl (by omega) (by omega)
  have SH : ∀ (a b : Nat), a < n → b < n → ∀ l, differT T T a b = some l → l.length ≤ 60 := fun a b ha hb l hl => (differT_words hV hV rfl (by omega) (by omega) l hl).2
  replace hR := Lib.hid hR; replace hV := Lib.hid hV; replace DC := Lib.hid DC; replace SH := Lib.hid SH; replace hnI := Lib.hid hnI; replace hn := Lib.hid hn; replace hw1 := Lib.hid hw1; replace hst := Lib.hid hst; replace P1 := Lib.hid P1; replace F1 := Lib.hid F1
  go_enter Try.func78, Try.ntmps78
  go_wp2_with fail
  try rw [hb1]
  rw [hw1.out]
  go_loopg [3, 4] (n + 1) (fun k v3 v4 wr => ∃ (i : Nat) (ps : List (Value × List Int)), i ≤ n ∧ k + i = n + 1 ∧ v4 = .int .i64 i ∧ TrI wr v3 ps (tellAll T i) (i * 30) ∧ Fr [] w1 wr)
  case atStart => exact ⟨0, [], by omega, by omega, by go_num, ⟨⟨.inl ⟨rfl, rfl⟩, by simp⟩, rfl, by simp, by simp [tellAll]⟩, Fr.refl _ _⟩
  case round =>
    obtain ⟨i, ps, hi, hk, rfl, hI, hF⟩ := hrel
    obtain ⟨wi, rfl⟩ : ∃ x : World, x = wr := ⟨_, rfl⟩
    obtain ⟨g1, rfl⟩ : ∃ x : Nat, x = gk := ⟨_, rfl⟩
    have ki := (hF.pt P1.out (by simp)).cell
    have hst' := hnI.out
    clear k1
    by_cases hlt : (i : Int) < T.st
    · as_aux_lemma =>
      have hin : i < n := by omega
      have hI0 : TrI wi u3 ps (tellAll T i ++ tellRow T i (i + 1)) (i * 30 + ((i + 1) - (i + 1))) := by
        rw [tellRow_start, List.append_nil]; exact ⟨hI.ws, hI.eq, by have := hI.len; omega, hI.sh⟩
      replace hI := Lib.hid hI; replace hF := Lib.hid hF; replace hst' := Lib.hid hst'; replace hI0 := Lib.hid hI0
      go_wp2_with fail
      clear ki
      go_loopg [3, 5] (n - i) (fun k v3 v5 wr => ∃ (j : Nat) (ps : List (Value × List Int)), i + 1 ≤ j ∧ j ≤ n ∧ k + j = n + 1 ∧ v5 = .int .i64 j ∧ TrI wr v3 ps (tellAll T i ++ tellRow T i j) (i * 30 + (j - (i + 1))) ∧ Fr [] w1 wr)
      case atStart => exact ⟨i + 1, ps, by omega, by omega, by omega, by go_num, hI0.out, hF.out⟩
      case round =>
        clear hI hI0 hF
        obtain ⟨j, ps, hj0, hj, hk2, rfl, hI, hF⟩ := hrel
        obtain ⟨wj, rfl⟩ : ∃ x : World, x = wr := ⟨_, rfl⟩
        have hst2 := hnI.out
        have kj := (hF.pt P1.out (by simp)).cell
        by_cases hlt2 : (j : Int) < T.st
        · have hjn : j < n := by omega
          have D := DC.out wj i j (F1.out.trans hF) hin hjn
          have S2 := SH.out i j hin hjn
          have hstp := tellRow_step T i j hj0
          obtain ⟨X, hX⟩ : ∃ x, differT T T i j = x := ⟨_, rfl⟩
          rw [hX] at D S2 hstp
          cases X with
          | none =>
            have D2 : Calls Try.prog 63 #[.agg #[.int .i64 T.st, .int .i64 T.ev, .int .i64 T.sr, r], .agg #[.int .i64 T.st, .int .i64 T.ev, .int .i64 T.sr, r], .int .i64 i, .int .i64 j] wj fun e w' => (∃ v, e = .returned (.tuple #[v, .bool false])) ∧ Fr [] wj w' := D.mono fun e w' ⟨v, h1, h2, h3⟩ => ⟨⟨_, h1⟩, h3⟩
            clear D
            replace hI := Lib.hid hI; replace hF := Lib.hid hF; replace hst2 := Lib.hid hst2; replace S2 := Lib.hid S2; replace hstp := Lib.hid hstp; replace hX := Lib.hid hX; replace D2 := Lib.hid D2
            go_wp2_with fail
            refine D2.out.mono ?_
            rintro e w2 ⟨⟨v2, rfl⟩, f2⟩
            have GI : TrI w2 u3 ps (tellAll T i ++ tellRow T i (j + 1)) (i * 30 + (j + 1 - (i + 1))) := ⟨hI.out.ws.fr f2, by rw [hstp.out]; simpa using hI.out.eq, by have := hI.out.len; omega, by rw [hstp.out]; simpa using hI.out.sh⟩
            replace f2 := Lib.hid f2; replace GI := Lib.hid GI
            go_wp2_with fail
            go_roundg (gk - 1)
            case measure => omega
            case rel => exact ⟨j + 1, ps, by omega, by omega, by omega, by go_num, GI.out, hF.out.trans f2.out⟩
          | some word =>
            have D2 : Calls Try.prog 63 #[.agg #[.int .i64 T.st, .int .i64 T.ev, .int .i64 T.sr, r], .agg #[.int .i64 T.st, .int .i64 T.ev, .int .i64 T.sr, r], .int .i64 i, .int .i64 j] wj fun e w' => (∃ v, e = .returned (.tuple #[v, .bool true]) ∧ NIn w' v word) ∧ Fr [] wj w' := D.mono fun e w' ⟨v, h1, h2, h3⟩ => by
              obtain ⟨o, c, rfl, _, h4⟩ := h2
              exact ⟨⟨_, h1, h4⟩, h3⟩
            clear D
            have S3 := S2 word rfl
            clear S2
            replace hI := Lib.hid hI; replace hF := Lib.hid hF; replace hst2 := Lib.hid hst2; replace S3 := Lib.hid S3; replace hstp := Lib.hid hstp; replace hX := Lib.hid hX; replace D2 := Lib.hid D2
            go_wp2_with fail
            refine D2.out.mono ?_
            rintro e w2 ⟨⟨v2, rfl, n2⟩, f2⟩
            have hps := hI.out.len
            have PC := rput_any u3 v2 ps word w2 (hI.out.ws.fr f2) n2 hI.out.asc (by omega) (by have := S3.out; omega) hI.out.short
            replace n2 := Lib.hid n2; replace f2 := Lib.hid f2; replace PC := Lib.hid PC
            go_wp2_with fail
            refine PC.out.mono ?_
            rintro e w9 ⟨v9, ps9, rfl, he9, hW9, f9⟩
            have GI : TrI w9 v9 ps9 (tellAll T i ++ tellRow T i (j + 1)) (i * 30 + (j + 1 - (i + 1))) := ⟨hW9, by
              rw [he9, hI.out.eq, hstp.out, Option.toList_some, ← List.append_assoc, onceF_snoc], by
              have h1 := congrArg List.length he9
              have h2 := insW_len word (wds ps)
              unfold wds at h1 h2
              rw [List.length_map] at h1 h2
              omega, fun x hx => by
              rw [hstp.out, Option.toList_some, ← List.append_assoc] at hx
              rcases List.mem_append.mp hx with hx | hx
              · exact hI.out.sh x hx
              · simp at hx; subst hx; exact S3.out⟩
            have GF := (hF.out.trans f2.out).trans f9
            replace he9 := Lib.hid he9; replace hW9 := Lib.hid hW9; replace f9 := Lib.hid f9; replace GI := Lib.hid GI; replace GF := Lib.hid GF
            go_wp2_with fail
            go_roundg (gk - 1)
            case measure => omega
            case rel => exact ⟨j + 1, _, by omega, by omega, by omega, by go_num, GI.out, GF.out⟩
        · have hjn : j = n := by omega
          subst hjn
          have GI : TrI wj u3 ps (tellAll T (i + 1)) ((i + 1) * 30) := ⟨hI.ws, by rw [tellAll_step, hn.out]; exact hI.eq, by have := hI.len; omega, by rw [tellAll_step, hn.out]; exact hI.sh⟩
          replace hI := Lib.hid hI; replace hF := Lib.hid hF; replace hst2 := Lib.hid hst2; replace GI := Lib.hid GI
          go_wp2_with fail
          go_roundg (g1 - 1)
          case measure => omega
          case rel => exact ⟨i + 1, ps, by omega, by omega, by go_num, GI.out, hF.out⟩
    · have hin : i = n := by omega
      subst hin
      have GO : PutR (onceF (tellAll T T.st.toNat)) w (.returned u3) wi := ⟨u3, ps, rfl, by rw [hn.out]; exact hI.eq, hI.ws, F1.out.trans hF⟩
      replace hI := Lib.hid hI; replace hF := Lib.hid hF; replace hst' := Lib.hid hst'; replace GO := Lib.hid GO
      go_wp2_with fail
      go_ret
      exact GO.out
def TlR (L : List (List Int)) (s : Int) (w : World) (e : Ending) (w' : World) : Prop := ∃ v' ps', e = .returned (.tuple #[v', .int .i64 s]) ∧ wds ps' = L ∧ WSl w' v' ps' ∧ Fr [] w w'
theorem rTell_any (T : Tb) (v : Value) (w : World) (hT : TIn w v T) :
    Calls Try.prog 45 #[v] w (TlR (tellF T).1 (tellF T).2 w) := by
  obtain ⟨r, rfl, hR⟩ := hT
  rw [show T.val r = .agg #[.int .i64 T.st, .int .i64 T.ev, .int .i64 T.sr, r] from rfl]
  have VA : ∀ W, Fr [] w W → Calls Try.prog 20 #[.agg #[.int .i64 T.st, .int .i64 T.ev, .int .i64 T.sr, r]] W fun e w' => e = .returned (.bool (validT T)) ∧ Fr [] W w' := fun W f => rvalid_any T _ W ⟨r, rfl, hR.fr f⟩
  obtain ⟨⟨X, z⟩, hX⟩ : ∃ x, tellF T = x := ⟨_, rfl⟩
  rw [hX]
  dsimp only
  obtain ⟨w1, hw1⟩ : ∃ x, w.alloc (.cells #[.int .i64 T.st, .int .i64 T.ev, .int .i64 T.sr, r] RTab) = x := ⟨_, rfl⟩
  have P1 := Pt.newA w RTab #[.int .i64 T.st, .int .i64 T.ev, .int .i64 T.sr, r]
  rw [hw1] at P1
  have F1 : Fr [] w w1 := by rw [← hw1]; exact (Fr.refl [] w).alloc _
  obtain ⟨b1, hb1⟩ : ∃ x, w.heap.size = x := ⟨_, rfl⟩
  rw [hb1] at P1
  have k1 := P1.cell
  replace hR := Lib.hid hR; replace VA := Lib.hid VA; replace hX := Lib.hid hX; replace P1 := Lib.hid P1; replace F1 := Lib.hid F1
  go_enter Try.func45, Try.ntmps45
  go_wp2_with fail
  refine (VA.out _ F1.out).mono ?_
  rintro e w4 ⟨rfl, f4⟩
  have F4 := F1.out.trans f4
  have p1 := f4.pt P1.out (by simp)
  clear k1 hb1 hw1
  cases hv : validT T
  · have hx := hX.out
    unfold tellF at hx
    rw [hv] at hx
    obtain ⟨rfl, rfl⟩ : [] = X ∧ 1 = z := by simpa using hx
    clear hx
    have GO : TlR [] 1 w (.returned (.tuple #[.slice none 0 0, .int .i64 1])) w4 := ⟨_, [], rfl, rfl, ⟨.inl ⟨rfl, rfl⟩, by simp⟩, F4⟩
    replace hv := Lib.hid hv; replace F4 := Lib.hid F4; replace f4 := Lib.hid f4; replace p1 := Lib.hid p1; replace GO := Lib.hid GO
    go_wp2_with fail
    refine bodyPost_ret (v := .tuple #[.slice none 0 0, .int .i64 1]) (by simp [results, Try.results45, go_sem]) rfl GO.out
  · have hV := (validT_iff T).mp hv
    have hx := hX.out
    unfold tellF at hx
    rw [hv, if_pos rfl] at hx
    obtain ⟨hx1, rfl⟩ : onceF (tellAll (leastT T) (leastT T).st.toNat) = X ∧ 0 = z := by simpa using hx
    have LE := rleast_any T _ w4 ⟨r, rfl, hR.out.fr F4⟩ hV
    rw [show T.val r = .agg #[.int .i64 T.st, .int .i64 T.ev, .int .i64 T.sr, r] from rfl] at LE
    have TE : ∀ r' W, RIn W r' (leastT T).rows → Calls Try.prog 78 #[.agg #[.int .i64 (leastT T).st, .int .i64 (leastT T).ev, .int .i64 (leastT T).sr, r']] W (PutR (onceF (tellAll (leastT T) (leastT T).st.toNat)) W) := fun r' W h => rtell_any (leastT T) r' W h (least_valid hV)
    have c1 := p1.cell
    clear hx
    replace hv := Lib.hid hv; replace hV := Lib.hid hV; replace hx1 := Lib.hid hx1; replace F4 := Lib.hid F4; replace f4 := Lib.hid f4; replace p1 := Lib.hid p1; replace LE := Lib.hid LE; replace TE := Lib.hid TE
    go_wp2_with fail
    refine LE.out.mono ?_
    rintro e w7 ⟨rv, rfl, hRB, f7⟩
    have F7 := F4.out.trans f7
    have C3 := TE.out rv w7 hRB.rin
    clear c1
    replace hRB := Lib.hid hRB; replace f7 := Lib.hid f7; replace F7 := Lib.hid F7; replace C3 := Lib.hid C3
    go_wp2_with fail
    refine C3.out.mono ?_
    rintro e w8 ⟨v8, ps8, rfl, h8, W8, f8⟩
    have GO : TlR X 0 w (.returned (.tuple #[v8, .int .i64 0])) w8 := ⟨v8, ps8, rfl, h8.trans hx1.out, W8, F7.out.trans f8⟩
    replace h8 := Lib.hid h8; replace W8 := Lib.hid W8; replace f8 := Lib.hid f8; replace GO := Lib.hid GO
    go_wp2_with fail
    refine bodyPost_ret (v := .tuple #[v8, .int .i64 0]) (by simp [results, Try.results45, go_sem]) rfl GO.out
end Go.Proofs.Ytnggimkkjdipmaa
namespace Go.Proofs.Ytnggimkkjdipmaa
open Go.RowKit
set_option linter.unusedVariables false
set_option linter.unusedSimpArgs false
set_option maxHeartbeats 16000000
set_option maxRecDepth 100000
/-! ### The reference's cover -/
theorem make_wds (n : Int) (w : World) (h0 : 0 ≤ n) (h1 : n ≤ 1000) :
    (Instr.makeSlice 53 (.int .i64 n) (.int .i64 n)).run Try.prog w = .ok (.slice (some ⟨w.heap.size, 0, none⟩) n.toNat n.toNat) (w.alloc (.cells (List.replicate n.toNat (Value.slice none 0 0)).toArray 25)) := by
  rw [run_make (P := Try.prog) w 53 25 iWd zWd uWds infoWd (by kernel_rfl) .i64 .i64 n n h0 (by omega) (by rw [bytesWd]; omega) (by omega)]
  congr 3
  rw [show iWd.size = 1 by kernel_rfl, show zWd.cells = #[.slice none 0 0] by kernel_rfl]
  unfold madeCells
  apply Array.ext
  · simp
  · intro i h1 h2
    simp [Nat.mod_one]
/-- cover, in the midst. -/
structure CoI (T : Tb) (n : Nat) (w : World) (bo bk : Nat) (L : List (Int × List Int)) (wr : World) (v5 : Value) (b5 : Option Nat) (us : List Value) : Prop where
  po : Pt wr bo 25 us
  ln : us.length = n
  ws : ∀ s (h : s < us.length), NInB (fun b => b ≠ bo ∧ b ≠ bk ∧ b ∉ b5.toList) wr us[s] (lookW L s)
  pk : Pt wr bk 4 (bools n (fun s => decide ((s : Int) ∈ keyW L)))
  lr : Row 1 wr v5 (keyW L).length (ints (keyW L)) b5
  l5 : ∀ z, b5 = some z → z ≠ bo ∧ z ≠ bk ∧ w.heap.size ≤ z
  ne : bo ≠ bk
  go : w.heap.size ≤ bo
  gk : w.heap.size ≤ bk
  fr : Fr [] w wr
variable {T : Tb} {n : Nat} {w : World} {bo bk : Nat} {L : List (Int × List Int)} {wr : World} {v5 : Value} {b5 : Option Nat} {us : List Value}
theorem CoI.frz (h : CoI T n w bo bk L wr v5 b5 us) {W : World} (f : Fr [] wr W) : CoI T n w bo bk L W v5 b5 us :=
  ⟨f.pt h.po (by simp), h.ln, fun s hs => (h.ws s hs).frq f (fun b _ hq => ⟨by simp, hq⟩), f.pt h.pk (by simp), h.lr.fr f (by simp), h.l5, h.ne, h.go, h.gk, h.fr.trans f⟩
theorem CoI.step (h : CoI T n w bo bk L wr v5 b5 us) {t : Nat} (ht : t < n) (hn : (t : Int) ∉ keyW L) {W3 W5 : World} {v3 v5' : Value} {word : List Int} {b5' : Option Nat}
    (f3 : Fr [] (wr.setCell ⟨bk, t, none⟩ (.bool true)) W3) (n3 : NInB (fun b => (wr.setCell ⟨bk, t, none⟩ (.bool true)).heap.size ≤ b) W3 v3 word)
    (hr5 : Row 1 W5 v5' (keyW L ++ [(t : Int)]).length (ints (keyW L ++ [(t : Int)])) b5') (hb5 : b5' = b5 ∨ ∃ z, b5' = some z ∧ (W3.setCell ⟨bo, t, none⟩ v3).heap.size ≤ z) (f5 : Fr b5.toList (W3.setCell ⟨bo, t, none⟩ v3) W5) :
    CoI T n w bo bk (L ++ [((t : Int), word)]) W5 v5' b5' (us.set t v3) := by
  have f1 : Fr [bk] wr (wr.setCell ⟨bk, t, none⟩ (.bool true)) := (Fr.refl _ wr).setCell (.inl (by simp)) _
  have f4 : Fr [bo] W3 (W3.setCell ⟨bo, t, none⟩ v3) := (Fr.refl _ W3).setCell (.inl (by simp)) _
  have hlo := h.po.lt
  have hlk := h.pk.lt
  have s1 := f1.size; have s3 := f3.size; have s4 := f4.size
  have hl5 : ∀ z ∈ b5.toList, z < wr.heap.size ∧ z ≠ bo ∧ z ≠ bk ∧ w.heap.size ≤ z := fun z hz => by
    have hz' : b5 = some z := by simpa using hz
    have h3 := h.lr
    rw [hz'] at h3
    exact ⟨h3.lt, h.l5 z hz'⟩
  have hnb : ∀ b, b < (W3.setCell ⟨bo, t, none⟩ v3).heap.size → b ∉ b5.toList → b ∉ b5'.toList := fun b hb hq hm => by
    rcases hb5 with e | ⟨z, e, hz⟩
    · rw [e] at hm; exact hq hm
    · rw [e] at hm; simp at hm; omega
  have hne := h.ne
  refine ⟨f5.pt ((f3.pt (h.po.ne (p := ⟨bk, t, none⟩) hne _) (by simp)).set t v3) (fun hm => by have := hl5 _ hm; omega), by rw [List.length_set]; exact h.ln, fun s hs => ?_, ?_, ?_, fun z hz => ?_, hne, h.go, h.gk, ?_⟩
  · have hs' : s < us.length := by rw [List.length_set] at hs; exact hs
    rw [lookW_snoc L _ _ hn]
    by_cases e : s = t
    · subst e
      rw [if_pos rfl]
      rw [List.getElem_set_self]
      refine (n3.frq f4 (q' := fun b => (wr.setCell ⟨bk, s, none⟩ (.bool true)).heap.size ≤ b ∧ b < W3.heap.size) (fun b hb hq => ⟨by simp; omega, hq, hb⟩)).frq f5 (fun b hb hq => ?_)
      have h1 : b ∉ b5.toList := fun hm => by have := hl5 _ hm; omega
      exact ⟨h1, by omega, by omega, hnb b hb h1⟩
    · rw [if_neg (by omega), List.getElem_set_ne (fun e' => e e'.symm)]
      have g1 := (h.ws s hs').frq f1 (q' := fun b => b < wr.heap.size ∧ b ≠ bo ∧ b ≠ bk ∧ b ∉ b5.toList) (fun b hb hq => ⟨by simpa using hq.2.1, hb, hq⟩)
      have g2 := (g1.frq f3 (q' := fun b => b < wr.heap.size ∧ b ≠ bo ∧ b ≠ bk ∧ b ∉ b5.toList) (fun b hb hq => ⟨by simp, hq⟩)).frq f4 (q' := fun b => b < wr.heap.size ∧ b ≠ bo ∧ b ≠ bk ∧ b ∉ b5.toList) (fun b hb hq => ⟨by simpa using hq.2.1, hq⟩)
      exact g2.frq f5 (fun b hb hq => ⟨hq.2.2.2, hq.2.1, hq.2.2.1, hnb b hb hq.2.2.2⟩)
  · have p1 := h.pk.set t (.bool true)
    rw [bools_set] at p1
    have e1 : (fun j => if j = t then true else decide ((j : Int) ∈ keyW L)) = fun s : Nat => decide ((s : Int) ∈ keyW (L ++ [((t : Int), word)])) := by
      funext j
      by_cases e : j = t
      · subst e; simp
      · rw [if_neg e]
        simp [keyW]
        rw [show ((j : Int) = (t : Int)) = False by simp; omega]
        simp
    rw [e1] at p1
    exact f5.pt ((f3.pt p1 (by simp)).ne (p := ⟨bo, t, none⟩) (fun e => hne e.symm) _) (fun hm => by have := hl5 _ hm; omega)
  · rw [show keyW (L ++ [((t : Int), word)]) = keyW L ++ [(t : Int)] by simp [keyW]]; exact hr5
  · rcases hb5 with e | ⟨z', e, hz'⟩
    · exact h.l5 z (by rw [← e]; exact hz)
    · rw [hz] at e; cases e; have := h.fr.size; exact ⟨by omega, by omega, by omega⟩
  · have g1 : Fr [] w (wr.setCell ⟨bk, t, none⟩ (.bool true)) := h.fr.step f1 (fun z hz => .inr (by simp at hz; have := h.gk; omega))
    have g2 : Fr [] w (W3.setCell ⟨bo, t, none⟩ v3) := (g1.trans f3).step f4 (fun z hz => .inr (by simp at hz; have := h.go; omega))
    exact g2.step f5 (fun z hz => .inr (hl5 z hz).2.2.2)
theorem CoI.start (hT : VT T) (hn : T.st = (n : Int)) {s0 : Nat} (hs : T.sr = (s0 : Int)) {W : World} {bl : Nat} (po : Pt W bo 25 (List.replicate n (Value.slice none 0 0))) (pk : Pt W bk 4 (bools n (fun j => if j = s0 then true else false)))
    (pl : Pt W bl 3 [.int .i64 s0]) (h1 : bo ≠ bk) (h2 : bl ≠ bo) (h3 : bl ≠ bk) (go : w.heap.size ≤ bo) (gk : w.heap.size ≤ bk) (gl : w.heap.size ≤ bl) (f : Fr [] w W) :
    CoI T n w bo bk [(T.sr, [])] W (.slice (some ⟨bl, 0, none⟩) 1 1) (some bl) (List.replicate n (Value.slice none 0 0)) := by
  refine ⟨po, by simp, fun s hs => ?_, ?_, ?_, fun z hz => by cases hz; exact ⟨h2, h3, gl⟩, h1, go, gk, f⟩
  · rw [List.getElem_replicate]
    have e : lookW [(T.sr, ([] : List Int))] s = [] := by simp [lookW]
    rw [e]
    exact ⟨none, 0, rfl, fun i hi => by simp at hi⟩
  · have e1 : (fun j => if j = s0 then true else false) = fun s : Nat => decide ((s : Int) ∈ keyW [(T.sr, ([] : List Int))]) := by
      funext j
      simp only [keyW, List.map_cons, List.map_nil, List.mem_singleton, hs]
      by_cases e : j = s0
      · subst e; simp
      · rw [if_neg e]; symm; rw [decide_eq_false_iff_not]; omega
    rw [← e1]; exact pk
  · refine .inr ⟨bl, 0, 1, rfl, rfl, by simp, pl.lt, by simp [ints], fun j hj => ?_, fun j hj => ?_⟩
    · obtain rfl : j = 0 := by omega
      exact ⟨by rw [pl.cell]; rfl, pl.free 0⟩
    · obtain rfl : j = 0 := by simp at hj; omega
      rw [pl.cell]; simp [ints, hs]
/-- What cover hands back. -/
theorem CoI.out (h : CoI T n w bo bk (walkT T) wr v5 b5 us) (hn : T.st = (n : Int)) (hn1 : 1 ≤ n) : ∃ ps, wds ps = coverL T ∧ WSl wr (.slice (some ⟨bo, 0, none⟩) n n) ps := by
  have hlen : (us.zip (coverL T)).length = n := by
    rw [List.length_zip, h.ln]; unfold coverL; simp [hn]
  have hcl : (coverL T).length = n := by unfold coverL; simp [hn]
  refine ⟨us.zip (coverL T), ?_, .inr ⟨bo, 0, n, by rw [hlen], by omega, by omega, h.po.lt, fun i hi => ?_⟩, fun p hp => ?_⟩
  · unfold wds
    rw [List.map_snd_zip]
    rw [h.ln, hcl]; exact Nat.le_refl _
  · have hi' : i < us.length := by rw [h.ln]; omega
    rw [Nat.zero_add, h.po.cell, List.getElem_zip, List.getElem?_eq_getElem hi']
  · obtain ⟨i, hi, rfl⟩ := List.getElem_of_mem hp
    have hi' : i < us.length := by rw [h.ln]; omega
    rw [List.getElem_zip]
    have := (h.ws i hi').nin
    have e : (coverL T)[i]'(by rw [hcl]; omega) = lookW (walkT T) i := by unfold coverL; simp
    rw [e]; exact this
end Go.Proofs.Ytnggimkkjdipmaa
namespace Go.Proofs.Ytnggimkkjdipmaa
open Go.RowKit
set_option linter.unusedVariables false
set_option linter.unusedSimpArgs false
set_option maxHeartbeats 16000000
set_option maxRecDepth 100000
theorem rcover_any (T : Tb) (r : Value) (w : World) (hR : RIn w r T.rows) (hV : VT T) :
    Calls Try.prog 76 #[T.val r] w (PutR (coverL T) w) := by
  have hst := hV.st; have hev := hV.ev; have hsr := hV.sr
  obtain ⟨n, hn⟩ : ∃ n : Nat, T.st.toNat = n := ⟨_, rfl⟩
  obtain ⟨m, hm⟩ : ∃ n : Nat, T.ev.toNat = n := ⟨_, rfl⟩
  obtain ⟨s0, hs0⟩ : ∃ n : Nat, T.sr.toNat = n := ⟨_, rfl⟩
  have hnI : T.st = (n : Int) := by omega
  have hmI : T.ev = (m : Int) := by omega
  have hsI : T.sr = (s0 : Int) := by omega
  have hn30 : n ≤ 30 := by omega
  have hn1 : 1 ≤ n := by omega
  have hm30 : m ≤ 12 := by omega
  have hs0n : s0 < n := by omega
  have hs0I : (s0 : Int) < (n : Int) := by omega
  obtain ⟨BB, off, cap, rfl⟩ := hR.addr hV hnI
  rw [show T.val (.slice (some ⟨BB, off, none⟩) n cap) = .agg #[.int .i64 T.st, .int .i64 T.ev, .int .i64 T.sr, .slice (some ⟨BB, off, none⟩) n cap] from rfl]
  rw [hsI]
  obtain ⟨w1, hw1⟩ : ∃ x, w.alloc (.cells #[.int .i64 T.st, .int .i64 T.ev, .int .i64 s0, .slice (some ⟨BB, off, none⟩) n cap] RTab) = x := ⟨_, rfl⟩
  have P1 := Pt.newA w RTab #[.int .i64 T.st, .int .i64 T.ev, .int .i64 s0, .slice (some ⟨BB, off, none⟩) n cap]
  rw [hw1] at P1
  have F1 : Fr [] w w1 := by rw [← hw1]; exact (Fr.refl [] w).alloc _
  obtain ⟨b1, hb1⟩ : ∃ x, w.heap.size = x := ⟨_, rfl⟩
  rw [hb1] at P1
  have hmk := make_wds T.st w1 (by omega) (by omega)
  rw [hn] at hmk
  obtain ⟨w2, hw2⟩ : ∃ x, w1.alloc (.cells (List.replicate n (Value.slice none 0 0)).toArray 25) = x := ⟨_, rfl⟩
  have P2 := Pt.new w1 25 (List.replicate n (Value.slice none 0 0))
  have F2 : Fr [] w1 w2 := by rw [← hw2]; exact (Fr.refl [] w1).alloc _
  obtain ⟨b2, hb2⟩ : ∃ x, w1.heap.size = x := ⟨_, rfl⟩
  rw [hw2, hb2] at hmk P2
  have hmk3 := make_bools T.st w2 (by omega) (by omega)
  rw [hn, bools_zero] at hmk3
  obtain ⟨w3, hw3⟩ : ∃ x, w2.alloc (.cells (bools n fun _ => false).toArray 4) = x := ⟨_, rfl⟩
  have P3 := Pt.new w2 4 (bools n fun _ => false)
  have F3 : Fr [] w2 w3 := by rw [← hw3]; exact (Fr.refl [] w2).alloc _
  obtain ⟨b3, hb3⟩ : ∃ x, w2.heap.size = x := ⟨_, rfl⟩
  rw [hw3, hb3] at hmk3 P3
  have c3 : w3.cell? ⟨b3, s0, none⟩ = some (.bool false) := by rw [P3.cell, bools_get _ _ _ hs0n]
  have z3 := P3.free s0
  obtain ⟨w4, hw4⟩ : ∃ x, w3.setCell ⟨b3, s0, none⟩ (.bool true) = x := ⟨_, rfl⟩
  have P4 := P3.set s0 (.bool true)
  rw [bools_set, hw4] at P4
  have F4 : Fr [b3] w3 w4 := by rw [← hw4]; exact (Fr.refl _ w3).setCell (.inl (by simp)) _
  have l1 := P1.lt; have l2 := P2.lt; have l3 := P3.lt
  have s4 := F4.size
  have n12 : b1 < b2 := by omega
  have n23 : b2 < b3 := by omega
  have Q1 := F4.pt (F3.pt (F2.pt P1 (by simp)) (by simp)) (by simp; omega)
  have Q1a := F2.pt P1 (by simp)
  have Q1b := F3.pt Q1a (by simp)
  have Q2 := F4.pt (F3.pt P2 (by simp)) (by simp; omega)
  have k1 := P1.cell
  have k1a : w2.cell? ⟨b1, 0, none⟩ = some (.int .i64 T.st) := Q1a.cell 0
  have k1b : w3.cell? ⟨b1, 2, none⟩ = some (.int .i64 s0) := Q1b.cell 2
  have k1c : w4.cell? ⟨b1, 2, none⟩ = some (.int .i64 s0) := Q1.cell 2
  have FW4 : Fr [] w1 w4 := (F2.trans F3).step F4 (fun z hz => .inr (by simp at hz; have := F2.size; omega))
  obtain ⟨w5, hw5⟩ : ∃ x, w4.alloc (.cells #[.int .i64 s0] 3) = x := ⟨_, rfl⟩
  have P5 := Pt.newA w4 3 #[.int .i64 s0]
  have F5 : Fr [] w4 w5 := by rw [← hw5]; exact (Fr.refl [] w4).alloc _
  rw [hw5] at P5
  have I0 : CoI T n w1 b2 b3 [(T.sr, [])] w5 (.slice (some ⟨w4.heap.size, 0, none⟩) 1 1) (some w4.heap.size) (List.replicate n (Value.slice none 0 0)) :=
    CoI.start hV hnI hsI (F5.pt Q2 (by simp)) (F5.pt P4 (by simp)) P5 (by omega) (by omega) (by omega) (by omega) (by have := F2.size; omega) (by have := FW4.size; omega) (FW4.trans F5)
  have W0 := WcO.start hV
  have hwl := hR.fr F1
  replace hR := Lib.hid hR; replace hV := Lib.hid hV; replace hn := Lib.hid hn; replace hm := Lib.hid hm; replace hs0 := Lib.hid hs0; replace hnI := Lib.hid hnI; replace hmI := Lib.hid hmI; replace hsI := Lib.hid hsI; replace hst := Lib.hid hst; replace hev := Lib.hid hev; replace hsr := Lib.hid hsr; replace P1 := Lib.hid P1; replace P2 := Lib.hid P2; replace P3 := Lib.hid P3; replace P4 := Lib.hid P4; replace P5 := Lib.hid P5; replace F1 := Lib.hid F1; replace F2 := Lib.hid F2; replace F3 := Lib.hid F3; replace F4 := Lib.hid F4; replace F5 := Lib.hid F5; replace FW4 := Lib.hid FW4; replace Q1 := Lib.hid Q1; replace Q1a := Lib.hid Q1a; replace Q1b := Lib.hid Q1b; replace Q2 := Lib.hid Q2; replace I0 := Lib.hid I0; replace W0 := Lib.hid W0; replace hwl := Lib.hid hwl; replace hw5 := Lib.hid hw5
  go_enter Try.func76, Try.ntmps76
  go_wp2_with fail
  rw [hw5.out]
  obtain ⟨bl, hbl⟩ : ∃ x, w4.heap.size = x := ⟨_, rfl⟩
  rw [hbl] at I0 ⊢
  clear hmk hmk3 c3 z3 hw2 hw3 hw4 k1 k1a k1b k1c hb1 hb2 hb3 hw1 hbl
  have QB := fun (W : World) (f : Fr [] w1 W) => (f.pt P1.out (by simp)).cell
  replace QB := Lib.hid QB
  go_loopg [5, 6] 40 (fun kk v5 v6 wr => ∃ (k : Nat) (L : List (Int × List Int)) (b5 : Option Nat) (us : List Value), kk + k = 40 ∧ v6 = .int .i64 k ∧ WcO T L k ∧ CoI T n w1 b2 b3 L wr v5 b5 us)
  case atStart => exact ⟨0, _, _, _, by omega, rfl, W0.out, I0.out⟩
  case round =>
    obtain ⟨k, L, b5, us, hk, rfl, hW, hI⟩ := hrel
    obtain ⟨wo, rfl⟩ : ∃ x : World, x = wr := ⟨_, rfl⟩
    obtain ⟨go, rfl⟩ : ∃ g : Nat, g = gk := ⟨_, rfl⟩
    obtain ⟨ol, cl, hv5⟩ := hI.lr.len
    rw [show (keyW L).length = L.length from List.length_map _] at hv5
    subst hv5
    have hL30 := hW.len hV.out
    by_cases hkl : k < L.length
    · as_aux_lemma =>
      have hkl2 : k < (keyW L).length := by unfold keyW; rw [List.length_map]; exact hkl
      have hklI : (k : Int) < L.length := by omega
      have hE := hW.enter hV.out hkl
      have hk30 : k < 30 := by omega
      have I1 := hI
      replace hW := Lib.hid hW; replace hI := Lib.hid hI; replace hE := Lib.hid hE; replace I1 := Lib.hid I1
      go_wp2_with fail
      go_loopg [5, 7] (m + 1) (fun kk v5 v7 wr => ∃ (e : Nat) (L : List (Int × List Int)) (b5 : Option Nat) (us : List Value), e ≤ m ∧ kk + e = m + 1 ∧ v7 = .int .i64 e ∧ WcE T L k e ∧ CoI T n w1 b2 b3 L wr v5 b5 us)
      case atStart => exact ⟨0, _, _, _, by omega, by omega, rfl, hE.out, I1.out⟩
      clear hW hI hE I1 hL30 hkl hkl2 hklI
      case round =>
        obtain ⟨e, L, b5, us, he, hk2, rfl, hE, hI⟩ := hrel
        obtain ⟨wi, rfl⟩ : ∃ x : World, x = wr := ⟨_, rfl⟩
        have k1 := QB.out wi hI.fr
        obtain ⟨ol, cl, hv5⟩ := hI.lr.len
        rw [show (keyW L).length = L.length from List.length_map _] at hv5
        subst hv5
        have hkl := hE.lt
        have hkl2 : k < (keyW L).length := by unfold keyW; rw [List.length_map]; exact hkl
        have hklI : (k : Int) < L.length := by omega
        by_cases hlt : e < m
        · have hltI : (e : Int) < T.ev := by rw [hmI.out]; omega
          have hltM : (e : Int) < (m : Int) := by omega
          have hmemL := List.getElem_mem hkl
          have hrng := hE.ok.rng _ hmemL
          obtain ⟨a, ha⟩ : ∃ a : Nat, L[k].1 = (a : Int) := ⟨L[k].1.toNat, by omega⟩
          have hg : L.getD k (0, []) = L[k] := by rw [List.getD_eq_getElem?_getD, List.getElem?_eq_getElem hkl]; rfl
          have hst := hE.step hV.out hltI
          have hwd := lookW_at L k hkl hE.ok.nd
          rw [hg, ha] at hst
          rw [ha] at hrng hwd
          have han : a < n := by have := hnI.out; omega
          have hanI : (a : Int) < (n : Int) := by omega
          obtain ⟨B2, off2, cap2, hBB, y1, y2, _⟩ := (hwl.out.fr hI.fr).at hV.out hmI.out a e hrng.2 hlt
          have hat := hV.out.atOk hrng.1 hrng.2 (e := (e : Int)) (by omega) hltI
          obtain ⟨bL, oL, hol, x1⟩ : ∃ bL oL, ol = some ⟨bL, oL, none⟩ ∧ wi.cell? ⟨bL, oL + k, none⟩ = some (.int .i64 (a : Int)) := by
            obtain ⟨o', c', e', hl'⟩ := hI.lr.nin
            rw [show (keyW L).length = L.length from List.length_map _] at e'
            cases e'
            obtain ⟨b', off', e2, _, hc⟩ := hl' k hkl2
            refine ⟨b', off', e2, ?_⟩
            rw [hc]
            have : (keyW L)[k] = L[k].1 := by simp [keyW]
            rw [this, ha]
          subst hol
          obtain ⟨nx, hnx⟩ : ∃ x, (T.at a e).1 = x := ⟨_, rfl⟩
          rw [hnx] at y2 hat hst
          have ID := hI.frz (Fr.refl [] wi).drew
          by_cases h0 : 0 ≤ nx
          · obtain ⟨t, rfl⟩ : ∃ t : Nat, nx = (t : Int) := ⟨nx.toNat, by omega⟩
            have htn : t < n := by have := hnI.out; omega
            have htnI : (t : Int) < (n : Int) := by omega
            have kc : wi.drew.cell? ⟨b3, t, none⟩ = some (.bool (decide ((t : Int) ∈ keyW L))) := by rw [ID.pk.cell, bools_get _ _ _ htn]
            have kc0 : wi.cell? ⟨b3, t, none⟩ = some (.bool (decide ((t : Int) ∈ keyW L))) := kc
            by_cases hin : (t : Int) ∈ keyW L
            · as_aux_lemma =>
              have hW2 := hst.2 (fun h => h.2 hin)
              rw [decide_eq_true hin] at kc kc0
              replace hE := Lib.hid hE; replace hI := Lib.hid hI; replace hmemL := Lib.hid hmemL; replace hrng := Lib.hid hrng; replace ha := Lib.hid ha; replace hg := Lib.hid hg; replace hst := Lib.hid hst; replace hwd := Lib.hid hwd; replace hat := Lib.hid hat; replace hnx := Lib.hid hnx; replace ID := Lib.hid ID; replace hin := Lib.hid hin; replace hW2 := Lib.hid hW2
              go_upto_region 11 with fail
              go_region
              go_wp2_with fail
              go_roundg (gk - 1)
              case measure => omega
              case rel => exact ⟨e + 1, _, _, _, by omega, by omega, by go_num, hW2.out, ID.out⟩
            · have hW2 := hst.1 ⟨h0, hin⟩
              rw [decide_eq_false hin] at kc kc0
              have z0 := ID.pk.free t
              obtain ⟨wk, hwk⟩ : ∃ x, wi.drew.setCell ⟨b3, t, none⟩ (.bool true) = x := ⟨_, rfl⟩
              have hwk2 : (wi.setCell ⟨b3, t, none⟩ (.bool true)).drew = wk := hwk
              have fk : Fr [b3] wi.drew wk := by rw [← hwk]; exact (Fr.refl _ _).setCell (.inl (by simp)) _
              have hus : a < us.length := by rw [ID.ln]; exact han
              have hwn := (ID.ws a hus).frq fk (q' := fun _ => True) (fun b _ h => ⟨by simpa using h.2.1, trivial⟩)
              rw [hwd] at hwn
              have hwl30 : L[k].2.length ≤ 30 := by have := hE.ok.len k hkl; have := hE.len hV.out; omega
              have CC := rcopy_any us[a] L[k].2 wk hwn.nin (by omega)
              have po1 := ID.po.ne (p := ⟨b3, t, none⟩) ID.ne (.bool true)
              rw [hwk] at po1
              have co1 := po1.cell a
              rw [List.getElem?_eq_getElem hus] at co1
              obtain ⟨ua, hua⟩ : ∃ x, us[a] = x := ⟨_, rfl⟩
              rw [hua] at co1 CC
              have cl1 : wk.cell? ⟨bL, oL + k, none⟩ = some (.int .i64 (a : Int)) := by
                obtain ⟨o', c', e', hl'⟩ := hI.lr.nin
                rw [show (keyW L).length = L.length from List.length_map _] at e'
                cases e'
                have hb5 : b5 = some bL := by
                  rcases hI.lr with ⟨_, h2, _⟩ | ⟨b, off, cap, hb, e9, _⟩
                  · omega
                  · simp only [Value.slice.injEq, Option.some.injEq, Addr.mk.injEq] at e9
                    rw [hb, e9.1.1]
                have hne : bL ≠ b3 := (hI.l5 bL hb5).2.1
                have hlt9 : bL < wi.heap.size := by have h3 := hI.lr; rw [hb5] at h3; exact h3.lt
                rw [fk.cell (p := ⟨bL, oL + k, none⟩) hlt9 (by simpa using hne)]
                exact x1
              have htI2 : (t : Int) < (us.length : Int) := by rw [ID.ln]; omega
              replace hE := Lib.hid hE; replace hI := Lib.hid hI; replace hmemL := Lib.hid hmemL; replace hrng := Lib.hid hrng; replace ha := Lib.hid ha; replace hg := Lib.hid hg; replace hst := Lib.hid hst; replace hwd := Lib.hid hwd; replace hat := Lib.hid hat; replace hnx := Lib.hid hnx; replace ID := Lib.hid ID; replace hin := Lib.hid hin; replace hW2 := Lib.hid hW2; replace hwk := Lib.hid hwk; replace hwk2 := Lib.hid hwk2; replace fk := Lib.hid fk; replace hwn := Lib.hid hwn; replace CC := Lib.hid CC; replace po1 := Lib.hid po1; replace hua := Lib.hid hua
              clear kc
              go_upto_region 11 with fail
              go_region
              go_upto_region 14 with fail
              rw [hwk2.out]
              clear kc0 z0 y1 y2 x1 k1
              go_wp2_with fail
              refine CC.out.mono ?_
              rintro e9 w8 ⟨v8, b8, rfl, hr8, hb8, f8⟩
              obtain ⟨v9, w9, b9, happ, hr9, hb9, f9⟩ := hr8.one (by omega) (e : Int)
              have s8 := f8.size
              have FK : Fr [] wk w9 := f8.step f9 (fun z hz => .inr (hb8 z (by simpa using hz)))
              have n9 : NInB (fun b => wk.heap.size ≤ b) w9 v9 (L[k].2 ++ [(e : Int)]) := hr9.ninb (fun z hz => by
                rcases hb9 with e' | ⟨z', e', h⟩
                · exact hb8 z (by rw [← e']; exact hz)
                · rw [hz] at e'; cases e'; omega)
              obtain ⟨o8, c8, rfl⟩ := hr8.len
              obtain ⟨o9, c9, hv9⟩ := hr9.len
              rw [List.length_append, List.length_singleton] at hv9
              subst hv9
              have po9 := FK.pt po1.out (by simp)
              have co9 := po9.cell t
              rw [List.getElem?_eq_getElem (by rw [ID.out.ln]; exact htn)] at co9
              have zo9 := po9.free t
              obtain ⟨w10, hw10⟩ : ∃ x, w9.setCell ⟨b2, t, none⟩ (.slice o9 (L[k].2.length + 1) c9) = x := ⟨_, rfl⟩
              have f10 : Fr [b2] w9 w10 := by rw [← hw10]; exact (Fr.refl _ _).setCell (.inl (by simp)) _
              have hl10 : Row 1 w10 (.slice (some ⟨bL, oL, none⟩) L.length cl) (keyW L).length (ints (keyW L)) b5 := by
                refine ((hI.out.lr.fr ((Fr.refl [] wi).drew) (by simp)).fr fk.out (fun z hz hm => ?_)).fr (FK.mono (by simp) : Fr [b2] wk w9) (fun z hz hm => ?_) |>.fr f10 (fun z hz hm => ?_)
                · simp at hm; exact (hI.out.l5 z hz).2.1 hm
                · simp at hm; exact (hI.out.l5 z hz).1 hm
                · simp at hm; exact (hI.out.l5 z hz).1 hm
              obtain ⟨v11, w11, b11, happ2, hr11, hb11, f11⟩ := hl10.one (by unfold keyW; rw [List.length_map]; have := hE.out.len hV.out; omega) (t : Int)
              have NX := ID.out.step htn hin.out (W3 := w9) (v3 := .slice o9 (L[k].2.length + 1) c9) (by rw [hwk.out]; exact FK) (by rw [hwk.out]; exact n9) hr11 (by rw [hw10]; exact hb11) (by rw [hw10]; exact f11)
              clear CC
              replace hr8 := Lib.hid hr8; replace hb8 := Lib.hid hb8; replace f8 := Lib.hid f8; replace happ := Lib.hid happ; replace hr9 := Lib.hid hr9; replace hb9 := Lib.hid hb9; replace f9 := Lib.hid f9; replace FK := Lib.hid FK; replace n9 := Lib.hid n9; replace po9 := Lib.hid po9; replace hw10 := Lib.hid hw10; replace f10 := Lib.hid f10; replace hl10 := Lib.hid hl10; replace happ2 := Lib.hid happ2; replace hr11 := Lib.hid hr11; replace hb11 := Lib.hid hb11; replace f11 := Lib.hid f11; replace NX := Lib.hid NX; replace s8 := Lib.hid s8
              go_upto_region 15 with (first | (at_builtin; refine wpList_append_run _ rfl _ _ _ rfl rfl rfl happ.out ?_))
              rw [hw10.out]
              clear co9 zo9 co1 cl1
              go_wp2_with (first | (at_builtin; refine wpList_append_run _ rfl _ _ _ rfl rfl rfl happ2.out ?_))
              go_roundg (gk - 1)
              case measure => omega
              case rel => exact ⟨e + 1, _, _, _, by omega, by omega, by go_num, hW2.out, NX.out⟩
          · as_aux_lemma =>
            have hW2 := hst.2 (fun h => h0 h.1)
            replace hE := Lib.hid hE; replace hI := Lib.hid hI; replace hmemL := Lib.hid hmemL; replace hrng := Lib.hid hrng; replace ha := Lib.hid ha; replace hg := Lib.hid hg; replace hst := Lib.hid hst; replace hwd := Lib.hid hwd; replace hat := Lib.hid hat; replace hnx := Lib.hid hnx; replace ID := Lib.hid ID; replace hW2 := Lib.hid hW2
            go_upto_region 11 with fail
            go_region
            go_wp2_with fail
            go_roundg (gk - 1)
            case measure => omega
            case rel => exact ⟨e + 1, _, _, _, by omega, by omega, by go_num, hW2.out, ID.out⟩
        · as_aux_lemma =>
          have hltI : ¬ (e : Int) < T.ev := by rw [hmI.out]; omega
          have hX := hE.exit hV.out hltI
          replace hE := Lib.hid hE; replace hI := Lib.hid hI; replace hX := Lib.hid hX
          go_wp2_with fail
          go_roundg (go - 1)
          case measure => omega
          case rel => exact ⟨k + 1, _, _, _, by omega, by go_num, hX.out, hI.out⟩
    · as_aux_lemma =>
      have hkl2 : ¬ k < (keyW L).length := by unfold keyW; rw [List.length_map]; exact hkl
      have hklI : ¬ (k : Int) < L.length := by omega
      have hfin := hW.fin hV.out hkl
      rw [hfin] at hI
      obtain ⟨ps, hps, hws⟩ := hI.out hnI.out hn1
      have GO : PutR (coverL T) w (.returned (.slice (some ⟨b2, 0, none⟩) n n)) wo := ⟨_, ps, rfl, hps, hws, F1.out.trans hI.fr⟩
      replace hW := Lib.hid hW; replace hI := Lib.hid hI; replace hfin := Lib.hid hfin; replace hps := Lib.hid hps; replace hws := Lib.hid hws; replace GO := Lib.hid GO
      go_wp2_with fail
      go_ret
      exact GO.out
end Go.Proofs.Ytnggimkkjdipmaa
namespace Go.Proofs.Ytnggimkkjdipmaa
open Go.RowKit
set_option linter.unusedVariables false
set_option linter.unusedSimpArgs false
set_option maxHeartbeats 16000000
set_option maxRecDepth 100000
/-! ### The reference's Cover and Least; Rows -/
theorem rCover_any (T : Tb) (v : Value) (w : World) (hT : TIn w v T) :
    Calls Try.prog 42 #[v] w (TlR (coverF T).1 (coverF T).2 w) := by
  obtain ⟨r, rfl, hR⟩ := hT
  rw [show T.val r = .agg #[.int .i64 T.st, .int .i64 T.ev, .int .i64 T.sr, r] from rfl]
  have VA : ∀ W, Fr [] w W → Calls Try.prog 20 #[.agg #[.int .i64 T.st, .int .i64 T.ev, .int .i64 T.sr, r]] W fun e w' => e = .returned (.bool (validT T)) ∧ Fr [] W w' := fun W f => rvalid_any T _ W ⟨r, rfl, hR.fr f⟩
  obtain ⟨⟨X, z⟩, hX⟩ : ∃ x, coverF T = x := ⟨_, rfl⟩
  rw [hX]
  dsimp only
  obtain ⟨w1, hw1⟩ : ∃ x, w.alloc (.cells #[.int .i64 T.st, .int .i64 T.ev, .int .i64 T.sr, r] RTab) = x := ⟨_, rfl⟩
  have P1 := Pt.newA w RTab #[.int .i64 T.st, .int .i64 T.ev, .int .i64 T.sr, r]
  rw [hw1] at P1
  have F1 : Fr [] w w1 := by rw [← hw1]; exact (Fr.refl [] w).alloc _
  obtain ⟨b1, hb1⟩ : ∃ x, w.heap.size = x := ⟨_, rfl⟩
  rw [hb1] at P1
  have k1 := P1.cell
  replace hR := Lib.hid hR; replace VA := Lib.hid VA; replace hX := Lib.hid hX; replace P1 := Lib.hid P1; replace F1 := Lib.hid F1
  go_enter Try.func42, Try.ntmps42
  go_wp2_with fail
  refine (VA.out _ F1.out).mono ?_
  rintro e w4 ⟨rfl, f4⟩
  have F4 := F1.out.trans f4
  have p1 := f4.pt P1.out (by simp)
  clear k1 hb1 hw1
  cases hv : validT T
  · have hx := hX.out
    unfold coverF at hx
    rw [hv] at hx
    obtain ⟨rfl, rfl⟩ : [] = X ∧ 1 = z := by simpa using hx
    clear hx
    have GO : TlR [] 1 w (.returned (.tuple #[.slice none 0 0, .int .i64 1])) w4 := ⟨_, [], rfl, rfl, ⟨.inl ⟨rfl, rfl⟩, by simp⟩, F4⟩
    replace hv := Lib.hid hv; replace F4 := Lib.hid F4; replace f4 := Lib.hid f4; replace p1 := Lib.hid p1; replace GO := Lib.hid GO
    go_wp2_with fail
    refine bodyPost_ret (v := .tuple #[.slice none 0 0, .int .i64 1]) (by simp [results, Try.results42, go_sem]) rfl GO.out
  · have hV := (validT_iff T).mp hv
    have hx := hX.out
    unfold coverF at hx
    rw [hv, if_pos rfl] at hx
    obtain ⟨hx1, rfl⟩ : coverL (leastT T) = X ∧ 0 = z := by simpa using hx
    have LE := rleast_any T _ w4 ⟨r, rfl, hR.out.fr F4⟩ hV
    rw [show T.val r = .agg #[.int .i64 T.st, .int .i64 T.ev, .int .i64 T.sr, r] from rfl] at LE
    have TE : ∀ r' W, RIn W r' (leastT T).rows → Calls Try.prog 76 #[.agg #[.int .i64 (leastT T).st, .int .i64 (leastT T).ev, .int .i64 (leastT T).sr, r']] W (PutR (coverL (leastT T)) W) := fun r' W h => rcover_any (leastT T) r' W h (least_valid hV)
    have c1 := p1.cell
    clear hx
    replace hv := Lib.hid hv; replace hV := Lib.hid hV; replace hx1 := Lib.hid hx1; replace F4 := Lib.hid F4; replace f4 := Lib.hid f4; replace p1 := Lib.hid p1; replace LE := Lib.hid LE; replace TE := Lib.hid TE
    go_wp2_with fail
    refine LE.out.mono ?_
    rintro e w7 ⟨rv, rfl, hRB, f7⟩
    have F7 := F4.out.trans f7
    have C3 := TE.out rv w7 hRB.rin
    clear c1
    replace hRB := Lib.hid hRB; replace f7 := Lib.hid f7; replace F7 := Lib.hid F7; replace C3 := Lib.hid C3
    go_wp2_with fail
    refine C3.out.mono ?_
    rintro e w8 ⟨v8, ps8, rfl, h8, W8, f8⟩
    have GO : TlR X 0 w (.returned (.tuple #[v8, .int .i64 0])) w8 := ⟨v8, ps8, rfl, h8.trans hx1.out, W8, F7.out.trans f8⟩
    replace h8 := Lib.hid h8; replace W8 := Lib.hid W8; replace f8 := Lib.hid f8; replace GO := Lib.hid GO
    go_wp2_with fail
    refine bodyPost_ret (v := .tuple #[v8, .int .i64 0]) (by simp [results, Try.results42, go_sem]) rfl GO.out
/-- What the reference's Least answers. -/
def LrR (T : Tb) (w : World) (e : Ending) (w' : World) : Prop :=
  ∃ (rv : Value) (X : Tb) (s : Int), e = .returned (.tuple #[.agg #[.int .i64 X.st, .int .i64 X.ev, .int .i64 X.sr, rv], .int .i64 s]) ∧ RIn w' rv X.rows ∧ ((validT T = true ∧ s = 0 ∧ X = leastT T) ∨ (validT T = false ∧ s = 1 ∧ X = ⟨0, 0, 0, []⟩)) ∧ Fr [] w w'
theorem RIn.nil0 (w : World) : RIn w (.slice Option.none 0 0) [] := ⟨_, 0, rfl, fun i hi => absurd hi (Nat.not_lt_zero _)⟩
theorem rLeast_any (T : Tb) (v : Value) (w : World) (hT : TIn w v T) :
    Calls Try.prog 40 #[v] w (LrR T w) := by
  obtain ⟨r, rfl, hR⟩ := hT
  rw [show T.val r = .agg #[.int .i64 T.st, .int .i64 T.ev, .int .i64 T.sr, r] from rfl]
  have VA : ∀ W, Fr [] w W → Calls Try.prog 20 #[.agg #[.int .i64 T.st, .int .i64 T.ev, .int .i64 T.sr, r]] W fun e w' => e = .returned (.bool (validT T)) ∧ Fr [] W w' := fun W f => rvalid_any T _ W ⟨r, rfl, hR.fr f⟩
  obtain ⟨w1, hw1⟩ : ∃ x, w.alloc (.cells #[.int .i64 T.st, .int .i64 T.ev, .int .i64 T.sr, r] RTab) = x := ⟨_, rfl⟩
  have P1 := Pt.newA w RTab #[.int .i64 T.st, .int .i64 T.ev, .int .i64 T.sr, r]
  rw [hw1] at P1
  have F1 : Fr [] w w1 := by rw [← hw1]; exact (Fr.refl [] w).alloc _
  obtain ⟨b1, hb1⟩ : ∃ x, w.heap.size = x := ⟨_, rfl⟩
  rw [hb1] at P1
  obtain ⟨w2, hw2⟩ : ∃ x, w1.alloc (.cells #[.int .i64 0, .int .i64 0, .int .i64 0, .slice none 0 0] RTab) = x := ⟨_, rfl⟩
  have P2 := Pt.newA w1 RTab #[.int .i64 0, .int .i64 0, .int .i64 0, .slice none 0 0]
  rw [hw2] at P2
  have F2 : Fr [] w1 w2 := by rw [← hw2]; exact (Fr.refl [] w1).alloc _
  obtain ⟨b2, hb2⟩ : ∃ x, w1.heap.size = x := ⟨_, rfl⟩
  rw [hb2] at P2
  have Q1 := F2.pt P1 (by simp)
  have k1 := Q1.cell
  have FA := F1.trans F2
  have hb2w : w.heap.size ≤ b2 := by have := F1.size; omega
  replace hR := Lib.hid hR; replace VA := Lib.hid VA; replace P1 := Lib.hid P1; replace F1 := Lib.hid F1; replace P2 := Lib.hid P2; replace F2 := Lib.hid F2; replace Q1 := Lib.hid Q1; replace FA := Lib.hid FA; replace hb2w := Lib.hid hb2w
  go_enter Try.func40, Try.ntmps40
  go_wp2_with fail
  refine (VA.out _ FA.out).mono ?_
  rintro e w4 ⟨rfl, f4⟩
  have F4 := FA.out.trans f4
  have p1 := f4.pt Q1.out (by simp)
  have p2 := f4.pt P2.out (by simp)
  clear k1 hb1 hw1 hb2 hw2
  cases hv : validT T
  · have c2 := p2.cell
    have z2 := p2.free
    have q3 := (((p2.set 0 (.int .i64 0)).set 1 (.int .i64 0)).set 2 (.int .i64 0)).set 3 (.slice none 0 0)
    have f5 : Fr [b2] w4 ((((w4.setCell ⟨b2, 0, none⟩ (.int .i64 0)).setCell ⟨b2, 1, none⟩ (.int .i64 0)).setCell ⟨b2, 2, none⟩ (.int .i64 0)).setCell ⟨b2, 3, none⟩ (.slice none 0 0)) := ((((Fr.refl _ w4).setCell (by simp) _).setCell (by simp) _).setCell (by simp) _).setCell (by simp) _
    obtain ⟨w5, hw5⟩ : ∃ x, (((w4.setCell ⟨b2, 0, none⟩ (.int .i64 0)).setCell ⟨b2, 1, none⟩ (.int .i64 0)).setCell ⟨b2, 2, none⟩ (.int .i64 0)).setCell ⟨b2, 3, none⟩ (.slice none 0 0) = x := ⟨_, rfl⟩
    rw [hw5] at q3 f5
    simp only [List.set_cons_zero, List.set_cons_succ] at q3
    have k3 := q3.cell
    have GO : LrR T w (.returned (.tuple #[.agg #[.int .i64 0, .int .i64 0, .int .i64 0, .slice none 0 0], .int .i64 1])) w5 := ⟨_, ⟨0, 0, 0, []⟩, 1, rfl, RIn.nil0 _, .inr ⟨hv, rfl, rfl⟩, F4.step f5 (fun q hq => .inr (by have := hb2w.out; simp at hq; omega))⟩
    replace hv := Lib.hid hv; replace F4 := Lib.hid F4; replace f4 := Lib.hid f4; replace p1 := Lib.hid p1; replace p2 := Lib.hid p2; replace q3 := Lib.hid q3; replace f5 := Lib.hid f5; replace GO := Lib.hid GO
    go_wp2_with fail
    refine bodyPost_ret (v := .tuple #[.agg #[.int .i64 0, .int .i64 0, .int .i64 0, .slice none 0 0], .int .i64 1]) (by simp [results, Try.results40, go_sem, k3]) rfl GO.out
  · have hV := (validT_iff T).mp hv
    have LE := rleast_any T _ w4 ⟨r, rfl, hR.out.fr F4⟩ hV
    rw [show T.val r = .agg #[.int .i64 T.st, .int .i64 T.ev, .int .i64 T.sr, r] from rfl] at LE
    have c1 := p1.cell
    replace hv := Lib.hid hv; replace hV := Lib.hid hV; replace F4 := Lib.hid F4; replace f4 := Lib.hid f4; replace p1 := Lib.hid p1; replace p2 := Lib.hid p2; replace LE := Lib.hid LE
    go_wp2_with fail
    refine LE.out.mono ?_
    rintro e w7 ⟨rv, rfl, hRB, f7⟩
    have F7 := F4.out.trans f7
    have p27 := f7.pt p2.out (by simp)
    have hRI := hRB.rin
    obtain ⟨orv, crv, hrv, _⟩ := hRI
    obtain ⟨nr, hnr⟩ : ∃ x, (leastT T).rows.length = x := ⟨_, rfl⟩
    rw [hnr] at hrv
    subst hrv
    obtain ⟨X, hXX⟩ : ∃ x, leastT T = x := ⟨_, rfl⟩
    rw [hXX] at hRB ⊢
    have c2 := p27.cell
    have z2 := p27.free
    have q3 := (((p27.set 0 (.int .i64 X.st)).set 1 (.int .i64 X.ev)).set 2 (.int .i64 X.sr)).set 3 (.slice orv nr crv)
    have f8 : Fr [b2] w7 ((((w7.setCell ⟨b2, 0, none⟩ (.int .i64 X.st)).setCell ⟨b2, 1, none⟩ (.int .i64 X.ev)).setCell ⟨b2, 2, none⟩ (.int .i64 X.sr)).setCell ⟨b2, 3, none⟩ (.slice orv nr crv)) := ((((Fr.refl _ w7).setCell (by simp) _).setCell (by simp) _).setCell (by simp) _).setCell (by simp) _
    obtain ⟨w8, hw8⟩ : ∃ x, (((w7.setCell ⟨b2, 0, none⟩ (.int .i64 X.st)).setCell ⟨b2, 1, none⟩ (.int .i64 X.ev)).setCell ⟨b2, 2, none⟩ (.int .i64 X.sr)).setCell ⟨b2, 3, none⟩ (.slice orv nr crv) = x := ⟨_, rfl⟩
    rw [hw8] at q3 f8
    simp only [List.set_cons_zero, List.set_cons_succ] at q3
    have k3 := q3.cell
    have hR8 := hRB.fr f8 (q' := fun _ => True) (fun b _ hq => ⟨fun hm => by have := p2.out.lt; simp at hm; omega, trivial⟩)
    have GO : LrR T w (.returned (.tuple #[.agg #[.int .i64 X.st, .int .i64 X.ev, .int .i64 X.sr, .slice orv nr crv], .int .i64 0])) w8 := ⟨_, X, 0, rfl, hR8.rin, .inl ⟨hv.out, rfl, hXX.symm⟩, F7.step f8 (fun q hq => .inr (by have := hb2w.out; simp at hq; omega))⟩
    clear c1
    replace hRB := Lib.hid hRB; replace f7 := Lib.hid f7; replace F7 := Lib.hid F7; replace p27 := Lib.hid p27; replace q3 := Lib.hid q3; replace f8 := Lib.hid f8; replace hR8 := Lib.hid hR8; replace GO := Lib.hid GO; replace hXX := Lib.hid hXX; replace hnr := Lib.hid hnr
    go_wp2_with fail
    refine bodyPost_ret (v := .tuple #[.agg #[.int .i64 X.st, .int .i64 X.ev, .int .i64 X.sr, .slice orv nr crv], .int .i64 0]) (by simp [results, Try.results40, go_sem, k3]) rfl GO.out
theorem rows_any (va vb : Value) (la lb : List (List Int)) (w : World) (hA : SIn w va la) (hB : SIn w vb lb) (hla : la.length ≤ 1000000000) (hln : ∀ x ∈ la, x.length ≤ 1000000000) :
    Calls Try.prog 43 #[va, vb] w fun e w' => e = .returned (.bool (decide (la = lb))) ∧ Fr [] w w' := by
  obtain ⟨oa, ca, rfl, ha⟩ := hA
  obtain ⟨ob, cb, rfl, hb⟩ := hB
  by_cases hab : (la.length : Int) = lb.length
  · have habn : la.length = lb.length := by omega
    obtain ⟨R, hR⟩ : ∃ x, decide (la = lb) = x := ⟨_, rfl⟩
    rw [hR, ← habn]
    clear hab
    replace ha := Lib.hid ha; replace hb := Lib.hid hb; replace hR := Lib.hid hR; replace habn := Lib.hid habn; replace hln := Lib.hid hln
    go_enter Try.func43, Try.ntmps43
    go_wp2_with fail
    go_loopg [5] (la.length + 1) (fun k v5 wr => ∃ i : Nat, i ≤ la.length ∧ k + i = la.length + 1 ∧ v5 = .int .i64 i ∧ la.take i = lb.take i ∧ Fr [] w wr)
    case atStart => exact ⟨0, by omega, by omega, rfl, by simp, Fr.refl _ _⟩
    case round =>
      obtain ⟨i, hi, hk, rfl, htk, hF⟩ := hrel
      obtain ⟨wi, rfl⟩ : ∃ x : World, x = wr := ⟨_, rfl⟩
      by_cases hlt : i < la.length
      · have hltI : (i : Int) < la.length := by omega
        have hltb : i < lb.length := by have := habn.out; omega
        obtain ⟨B1, f1, u1, rfl, hB1, x1, n1⟩ := ha.out i hlt
        obtain ⟨B2, f2, u2, rfl, hB2, y1, n2⟩ := hb.out i hltb
        have IC : ∀ W, Fr [] wi W → Calls Try.prog 21 #[u1, u2] W fun e w' => e = .returned (.bool (decide (la[i] = lb[i]))) ∧ Fr [] W w' := fun W f => ints_any _ _ _ _ W (n1.fr (hF.trans f)) (n2.fr (hF.trans f)) (by have := hln.out _ (List.getElem_mem hlt); omega)
        have KW : ∀ W, Fr [] wi W → (W.cell? ⟨B1, f1 + i, none⟩ = some u1 ∧ W.cell? ⟨B2, f2 + i, none⟩ = some u2) := fun W f => ⟨((hF.trans f).cell (p := ⟨B1, f1 + i, none⟩) hB1 (by simp)).trans x1, ((hF.trans f).cell (p := ⟨B2, f2 + i, none⟩) hB2 (by simp)).trans y1⟩
        have k9 := KW wi (Fr.refl _ _)
        obtain ⟨k9a, k9b⟩ := k9
        have hts := List.take_succ_eq_append_getElem hlt
        have htsb := List.take_succ_eq_append_getElem hltb
        obtain ⟨bb, hbb⟩ : ∃ x, decide (la[i] = lb[i]) = x := ⟨_, rfl⟩
        rw [hbb] at IC
        clear x1 y1
        replace htk := Lib.hid htk; replace hF := Lib.hid hF; replace hB1 := Lib.hid hB1; replace hB2 := Lib.hid hB2; replace n1 := Lib.hid n1; replace n2 := Lib.hid n2; replace IC := Lib.hid IC; replace KW := Lib.hid KW; replace hts := Lib.hid hts; replace htsb := Lib.hid htsb; replace hbb := Lib.hid hbb
        go_upto_region 6 with fail
        go_region_held3 (fun W => W.cell? ⟨B1, f1 + i, none⟩ = some u1 ∧ W.cell? ⟨B2, f2 + i, none⟩ = some u2)
          (first | exact KW.out _ (Fr.refl _ _).drew | exact KW.out _ G2.out)
          ((first
            | (go_at_call 21; refine (IC.out _ (Fr.refl _ _).drew).mono ?_; rintro e w2 ⟨rfl, f2⟩; have G2 := Lib.hid (((Fr.refl [] wi).drew).trans f2); replace f2 := Lib.hid f2)))
        all_goals
          have GF := Lib.hid (hF.out.trans G2.out)
          cases bb
          · have hres : R = false := by
              rw [← hR.out, decide_eq_false_iff_not]
              intro e
              subst e
              have := hbb.out
              simp at this
            subst hres
            clear k9a k9b
            go_wp2_with fail
            go_ret
            exact ⟨rfl, GF.out⟩
          · have htk2 : la.take (i + 1) = lb.take (i + 1) := by rw [hts.out, htsb.out, htk.out, of_decide_eq_true hbb.out]
            clear k9a k9b
            replace htk2 := Lib.hid htk2
            go_wp2_with fail
            go_roundg (gk - 1)
            case measure => omega
            case rel => exact ⟨i + 1, by omega, by omega, by go_num, htk2.out, GF.out⟩
      · have hltI : ¬ (i : Int) < la.length := by omega
        have hres : R = true := by
          rw [← hR.out, decide_eq_true_iff]
          have h1 := htk
          rw [List.take_of_length_le (by omega), List.take_of_length_le (by have := habn.out; omega)] at h1
          exact h1
        subst hres
        replace htk := Lib.hid htk; replace hF := Lib.hid hF
        go_wp2_with fail
        go_ret
        exact ⟨rfl, hF.out⟩
  · have hR : decide (la = lb) = false := by
      rw [decide_eq_false_iff_not]
      intro e; exact hab (by rw [e])
    rw [hR]
    replace ha := Lib.hid ha; replace hb := Lib.hid hb; replace hR := Lib.hid hR; replace hln := Lib.hid hln
    go_enter Try.func43, Try.ntmps43
    go_wp2_with fail
    go_ret
    exact ⟨rfl, Fr.refl _ _⟩
end Go.Proofs.Ytnggimkkjdipmaa
