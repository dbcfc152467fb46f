import Derived.Test.YtkfkkglodjehpaaTD15
namespace Go.Proofs.Ytkfkkglodjehpaa
open Go.RowKit
set_option linter.unusedVariables false
set_option linter.unusedSimpArgs false
/-! ### The classes: states of one class tell the same, states of two do not -/
theorem byteI_toNat (n : Int) : ((byteI n).toNat : Int) = n % 256 := by
  unfold byteI
  rw [UInt8.toNat_ofNat']
  omega
theorem keyB_inj : ∀ (l l' : List Int), (∀ x ∈ l, -1 ≤ x ∧ x ≤ 1000) → (∀ x ∈ l', -1 ≤ x ∧ x ≤ 1000) → keyB l = keyB l' → l = l'
  | [], [], _, _, _ => rfl
  | [], y :: l', _, _, h => by simp [keyB] at h
  | x :: l, [], _, _, h => by simp [keyB] at h
  | x :: l, y :: l', hl, hl', h => by
    have e1 : keyB (x :: l) = [byteI ((x + 1) / 256), byteI (x + 1)] ++ keyB l := rfl
    have e2 : keyB (y :: l') = [byteI ((y + 1) / 256), byteI (y + 1)] ++ keyB l' := rfl
    rw [e1, e2] at h
    simp only [List.cons_append, List.nil_append, List.cons.injEq] at h
    obtain ⟨h1, h2, h3⟩ := h
    have g1 := congrArg (fun b : UInt8 => (b.toNat : Int)) h1
    have g2 := congrArg (fun b : UInt8 => (b.toNat : Int)) h2
    simp only [byteI_toNat] at g1 g2
    have hx := hl x (by simp)
    have hy := hl' y (by simp)
    have hxy : x = y := by omega
    rw [hxy, keyB_inj l l' (fun z hz => hl z (by simp [hz])) (fun z hz => hl' z (by simp [hz])) h3]
theorem flat2_inj {α : Type} (f g : α → List Int) (hf : ∀ x, (f x).length = 2) (hg : ∀ x, (g x).length = 2) : ∀ (l l' : List α), l.length = l'.length → l.flatMap f = l'.flatMap g → ∀ i (h : i < l.length) (h' : i < l'.length), f l[i] = g l'[i]
  | [], _, _, _, i, h, _ => by simp at h
  | x :: l, [], hl, _, _, _, _ => by simp at hl
  | x :: l, y :: l', hl, h, i, hi, hi' => by
    simp only [List.flatMap_cons] at h
    have h1 := List.append_inj h (by rw [hf, hg])
    cases i with
    | zero => exact h1.1
    | succ i => exact flat2_inj f g hf hg l l' (by simpa using hl) h1.2 i (by simpa using hi) (by simpa using hi')
theorem rowKey_len (c : List Int) (r : Int × Int) : (rowKey c r).length = 2 := by unfold rowKey; split <;> rfl
theorem rowKey_iff (c : List Int) (r r' : Int × Int) (h : 0 ≤ r.2 ∧ (r.1 < 0 → r.2 = 0)) (h' : 0 ≤ r'.2 ∧ (r'.1 < 0 → r'.2 = 0)) : rowKey c r = rowKey c r' ↔ diffR r r' = false ∧ (0 ≤ r.1 → gI c r.1 = gI c r'.1) := by
  rw [diffR_false]
  unfold rowKey
  by_cases h1 : r.1 < 0 <;> by_cases h2 : r'.1 < 0
  · rw [if_pos h1, if_pos h2, h.2 h1, h'.2 h2]
    exact ⟨fun _ => ⟨⟨⟨fun _ => h2, fun _ => h1⟩, rfl⟩, fun h3 => by omega⟩, fun _ => rfl⟩
  · rw [if_pos h1, if_neg h2]
    constructor
    · intro h3; simp at h3; omega
    · intro h3; have := h3.1.1; omega
  · rw [if_neg h1, if_pos h2]
    constructor
    · intro h3; simp at h3; omega
    · intro h3; have := h3.1.1; omega
  · rw [if_neg h1, if_neg h2]
    constructor
    · intro h3
      simp only [List.cons.injEq, and_true] at h3
      exact ⟨⟨⟨fun h => absurd h h1, fun h => absurd h h2⟩, h3.1⟩, fun _ => h3.2⟩
    · rintro ⟨⟨_, h4⟩, h5⟩
      rw [h4, h5 (by omega)]
/-- A list of classes is good for a table: its numbers are small. -/
theorem gI_rng {T : Tb} (hT : VT T) {c : List Int} {n : Nat} (h : ClOk T c n) {s : Int} (h0 : 0 ≤ s) (h1 : s < T.st) : 0 ≤ gI c s ∧ gI c s < n := by
  have hl := hT.len h0 h1
  have hc : s.toNat < c.length := by rw [h.len]; exact hl
  unfold gI
  rw [List.getD_eq_getElem?_getD, List.getElem?_eq_getElem hc]
  exact h.rng _ (List.getElem_mem hc)
theorem key_iff {T : Tb} (hT : VT T) {c : List Int} {n : Nat} (h : ClOk T c n) {s t : Int} (hs : 0 ≤ s ∧ s < T.st) (ht : 0 ≤ t ∧ t < T.st) :
    ∃ (h1 : s.toNat < (keysT T c).length) (h2 : t.toNat < (keysT T c).length), ((keysT T c)[s.toNat] = (keysT T c)[t.toNat] ↔ gI c s = gI c t ∧ ∀ e : Int, 0 ≤ e → e < T.ev → diffR (T.at s e) (T.at t e) = false ∧ (0 ≤ (T.at s e).1 → gI c (T.at s e).1 = gI c (T.at t e).1)) := by
  have h30 := hT.le30
  have ls := hT.len hs.1 hs.2
  have lt := hT.len ht.1 ht.2
  have hk : (keysT T c).length = T.rows.length := keysFrom_len c 0 T.rows
  obtain ⟨_, e1⟩ := keysFrom_get c T.rows 0 s.toNat ls
  obtain ⟨_, e2⟩ := keysFrom_get c T.rows 0 t.toNat lt
  have rs := hT.row _ (List.getElem_mem ls)
  have rt := hT.row _ (List.getElem_mem lt)
  have hle := h.le
  have bnd : ∀ (x : Int) (hx : 0 ≤ x ∧ x < T.st), ∀ y ∈ keyL c (0 + x.toNat) T.rows[x.toNat]!, -1 ≤ y ∧ y ≤ 1000 := fun x hx y hy => by
    have lx := hT.len hx.1 hx.2
    have e0 : T.rows[x.toNat]! = T.rows[x.toNat] := by simp [lx]
    rw [e0] at hy
    unfold keyL at hy
    rcases List.mem_cons.mp hy with rfl | hy
    · have := gI_rng hT h hx.1 hx.2
      rw [Nat.zero_add, Int.toNat_of_nonneg hx.1]; omega
    · obtain ⟨r, hr, hy⟩ := List.mem_flatMap.mp hy
      have hc := hT.cell _ (List.getElem_mem lx) r hr
      unfold rowKey at hy
      split at hy
      · simp at hy; omega
      · simp at hy
        rcases hy with rfl | rfl
        · omega
        · have := gI_rng hT h (s := r.1) (by omega) hc.2.1; omega
  refine ⟨by rw [hk]; exact ls, by rw [hk]; exact lt, ?_⟩
  have e1' : (keysT T c)[s.toNat]'(by rw [hk]; exact ls) = keyB (keyL c (0 + s.toNat) T.rows[s.toNat]) := e1
  have e2' : (keysT T c)[t.toNat]'(by rw [hk]; exact lt) = keyB (keyL c (0 + t.toNat) T.rows[t.toNat]) := e2
  rw [e1', e2']
  have hrow : ∀ e : Int, 0 ≤ e → e < T.ev → ∃ (g1 : e.toNat < T.rows[s.toNat].length) (g2 : e.toNat < T.rows[t.toNat].length), T.at s e = T.rows[s.toNat][e.toNat] ∧ T.at t e = T.rows[t.toNat][e.toNat] := fun e h0 h1 => by
    obtain ⟨_, g1, g2⟩ := hT.get hs.1 hs.2 h0 h1
    obtain ⟨_, g3, g4⟩ := hT.get ht.1 ht.2 h0 h1
    exact ⟨g1, g3, g2, g4⟩
  have hv : ∀ (x e : Int), 0 ≤ x ∧ x < T.st → 0 ≤ e → e < T.ev → 0 ≤ (T.at x e).2 ∧ ((T.at x e).1 < 0 → (T.at x e).2 = 0) := fun x e hx h0 h1 => by
    have := hT.atOk hx.1 hx.2 h0 h1
    exact ⟨this.2.2.1, this.2.2.2.2⟩
  constructor
  · intro hkk
    have b1 := bnd s hs
    have b2 := bnd t ht
    simp only [ls, lt, getElem!_pos] at b1 b2
    have hl := keyB_inj _ _ b1 b2 hkk
    unfold keyL at hl
    simp only [List.cons.injEq, Nat.zero_add, Int.toNat_of_nonneg hs.1, Int.toNat_of_nonneg ht.1] at hl
    refine ⟨hl.1, fun e h0 h1 => ?_⟩
    obtain ⟨g1, g2, g3, g4⟩ := hrow e h0 h1
    have := flat2_inj _ _ (rowKey_len c) (rowKey_len c) _ _ (by omega) hl.2 e.toNat g1 g2
    rw [← g3, ← g4] at this
    exact (rowKey_iff c _ _ (hv s e hs h0 h1) (hv t e ht h0 h1)).mp this
  · rintro ⟨hc, hr⟩
    congr 1
    unfold keyL
    rw [Nat.zero_add, Nat.zero_add, Int.toNat_of_nonneg hs.1, Int.toNat_of_nonneg ht.1, hc]
    congr 1
    have hmap : T.rows[s.toNat].map (rowKey c) = T.rows[t.toNat].map (rowKey c) := by
      apply List.ext_getElem
      · simp; omega
      · intro i h1 h2
        simp at h1 h2
        have := (rowKey_iff c _ _ (hv s (i : Int) hs (by omega) (by omega)) (hv t (i : Int) ht (by omega) (by omega))).mpr (hr (i : Int) (by omega) (by omega))
        obtain ⟨g1, g2, g3, g4⟩ := hrow (i : Int) (by omega) (by omega)
        rw [g3, g4] at this
        simpa using this
    rw [List.flatMap_def, List.flatMap_def, hmap]
theorem num_iff {T : Tb} (hT : VT T) {c : List Int} {s t : Int} (hs : 0 ≤ s ∧ s < T.st) (ht : 0 ≤ t ∧ t < T.st) (h1 : s.toNat < (keysT T c).length) (h2 : t.toNat < (keysT T c).length) : gI (roundC T c).1 s = gI (roundC T c).1 t ↔ (keysT T c)[s.toNat] = (keysT T c)[t.toNat] := by
  obtain ⟨g1, e1⟩ := numG_get (keysT T c) [] s.toNat h1 List.nodup_nil
  obtain ⟨g2, e2⟩ := numG_get (keysT T c) [] t.toNat h2 List.nodup_nil
  have key : ∀ (x : Int) (hx : 0 ≤ x) (h : x.toNat < (numG [] (keysT T c)).1.length), gI (roundC T c).1 x = ((numG [] (keysT T c)).1[x.toNat] : Int) := fun x hx h => by
    show gI (toI _) x = _
    unfold gI toI
    rw [List.getD_eq_getElem?_getD, List.getElem?_eq_getElem (by simpa using h)]
    simp
  rw [key s hs.1 g1, key t ht.1 g2, e1, e2]
  constructor
  · intro h
    exact idxOf_inj (numG [] (keysT T c)).2 _ _ ((numG_mem _ _ _).mpr (.inr (List.getElem_mem h1))) (by omega)
  · intro h; rw [h]
/-- Classes apart: some word tells. -/
def SepC (T : Tb) (c : List Int) : Prop := ∀ s t : Int, 0 ≤ s ∧ s < T.st → 0 ≤ t ∧ t < T.st → gI c s ≠ gI c t → Ap T T s t
theorem SepC.round {T : Tb} (hT : VT T) {c : List Int} {n : Nat} (h : ClOk T c n) (hS : SepC T c) : SepC T (roundC T c).1 := by
  intro s t hs ht hne
  obtain ⟨h1, h2, hk⟩ := key_iff hT h hs ht
  have hkn : ¬ ((keysT T c)[s.toNat] = (keysT T c)[t.toNat]) := fun he => hne ((num_iff hT hs ht h1 h2).mpr he)
  by_cases hc : gI c s = gI c t
  · have : ¬ ∀ e : Int, 0 ≤ e → e < T.ev → diffR (T.at s e) (T.at t e) = false ∧ (0 ≤ (T.at s e).1 → gI c (T.at s e).1 = gI c (T.at t e).1) := fun hx => hkn (hk.mpr ⟨hc, hx⟩)
    refine Classical.byContradiction fun hna => this fun e h0 h3 => ?_
    have r1 := hT.atOk hs.1 hs.2 h0 h3
    have r2 := hT.atOk ht.1 ht.2 h0 h3
    cases hd : diffR (T.at s e) (T.at t e) with
    | true => exact absurd (Ap.here h0 h3 hd) hna
    | false =>
      refine ⟨rfl, fun hn => Classical.byContradiction fun hcn => hna ?_⟩
      have hsg := (diffR_false.mp hd).1
      exact Ap.next h0 h3 hn (by omega) (hS _ _ ⟨hn, r1.2.1⟩ ⟨by omega, r2.2.1⟩ hcn)
  · exact hS s t hs ht hc
/-- A map that keeps a list without doubles' count keeps its members apart. -/
theorem inj_of_count {κ μ : Type} [DecidableEq κ] [DecidableEq μ] (ks : List κ) (f : κ → μ) (h : (numG [] (ks.map f)).2.length = (numG [] ks).2.length) : ∀ a ∈ ks, ∀ b ∈ ks, f a = f b → a = b := by
  intro a ha b hb hf
  refine Classical.byContradiction fun hne => ?_
  have ha' : a ∈ (numG [] ks).2 := (numG_mem ks [] a).mpr (.inr ha)
  have hb' : b ∈ (numG [] ks).2 := (numG_mem ks [] b).mpr (.inr hb)
  have hnd := numG_nodup ks [] List.nodup_nil
  have hd2 := numG_nodup (ks.map f) [] List.nodup_nil
  have hb2 : b ∈ ((numG [] ks).2.erase a) := (List.mem_erase_of_ne (fun e => hne e.symm)).mpr hb'
  have := pigeon (numG [] (ks.map f)).2 (((numG [] ks).2.erase a).map f) hd2 (fun x hx => by
    rcases (numG_mem _ _ _).mp hx with h1 | h1
    · simp at h1
    · obtain ⟨y, hy, rfl⟩ := List.mem_map.mp h1
      by_cases hya : y = a
      · subst hya; rw [hf]; exact List.mem_map.mpr ⟨b, hb2, rfl⟩
      · exact List.mem_map.mpr ⟨y, (List.mem_erase_of_ne hya).mpr ((numG_mem ks [] y).mpr (.inr hy)), rfl⟩)
  rw [List.length_map, List.length_erase_of_mem ha'] at this
  have hpos : 0 < (numG [] ks).2.length := List.length_pos_of_mem ha'
  omega
structure Bis (T : Tb) (c : List Int) : Prop where
  same : ∀ s t : Int, 0 ≤ s ∧ s < T.st → 0 ≤ t ∧ t < T.st → gI c s = gI c t → ∀ e : Int, 0 ≤ e → e < T.ev → diffR (T.at s e) (T.at t e) = false ∧ (0 ≤ (T.at s e).1 → gI c (T.at s e).1 = gI c (T.at t e).1)
  sep : SepC T c
theorem fix_bis {T : Tb} (hT : VT T) {c : List Int} {n : Nat} (h : ClOk T c n) (hS : SepC T c) (hn : (roundC T c).2 = n) : Bis T (roundC T c).1 := by
  have hinj := inj_of_count (keysT T c) headB (by rw [keys_heads h hT.le30, h.num]; exact hn.symm)
  have hcl := keys_heads h hT.le30
  have hfix : ∀ s t : Int, 0 ≤ s ∧ s < T.st → 0 ≤ t ∧ t < T.st → gI c s = gI c t → gI (roundC T c).1 s = gI (roundC T c).1 t := fun s t hs ht hc => by
    obtain ⟨h1, h2, _⟩ := key_iff hT h hs ht
    refine (num_iff hT hs ht h1 h2).mpr (hinj _ (List.getElem_mem h1) _ (List.getElem_mem h2) ?_)
    have key : ∀ (x : Int) (hx : 0 ≤ x) (h : x.toNat < (keysT T c).length), headB (keysT T c)[x.toNat] = gI c x := fun x hx h => by
      unfold gI
      conv => rhs; rw [← hcl]
      rw [List.getD_eq_getElem?_getD, List.getElem?_eq_getElem (by simpa using h)]
      simp
    rw [key s hs.1 h1, key t ht.1 h2, hc]
  refine ⟨fun s t hs ht hc e h0 h3 => ?_, hS.round hT h⟩
  obtain ⟨h1, h2, hk⟩ := key_iff hT h hs ht
  obtain ⟨_, g2⟩ := hk.mp ((num_iff hT hs ht h1 h2).mp hc)
  obtain ⟨g3, g4⟩ := g2 e h0 h3
  refine ⟨g3, fun hn => ?_⟩
  have r1 := hT.atOk hs.1 hs.2 h0 h3
  have r2 := hT.atOk ht.1 ht.2 h0 h3
  have hsg := (diffR_false.mp g3).1
  exact hfix _ _ ⟨hn, r1.2.1⟩ ⟨by omega, r2.2.1⟩ (g4 hn)
theorem classF_bis {T : Tb} (hT : VT T) : ∀ (f : Nat) (c : List Int) (n : Nat), ClOk T c n → SepC T c → 31 - n ≤ f → 1 ≤ f → Bis T (classF T f c n)
  | 0, c, n, _, _, _, h1 => by omega
  | f + 1, c, n, h, hS, hf, _ => by
    unfold classF
    split
    · rename_i hn; exact fix_bis hT h hS hn
    · rename_i hn
      obtain ⟨h1, h2⟩ := h.round hT.le30
      have := h1.le
      have := hT.le30
      exact classF_bis hT f _ _ h1 (hS.round hT h) (by omega) (by omega)
theorem classes_bis {T : Tb} (hT : VT T) : Bis T (classes T) :=
  classF_bis hT 40 _ _ (ClOk.start hT) (fun s t hs ht hne => by
    refine absurd ?_ hne
    have key : ∀ x : Int, gI (class0 T) x = 0 := fun x => by
      unfold gI class0
      rw [List.getD_eq_getElem?_getD, List.getElem?_replicate]
      split <;> rfl
    rw [key, key]) (by omega) (by omega)
end Go.Proofs.Ytkfkkglodjehpaa
