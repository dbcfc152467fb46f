import Derived.Test.YtnggimkkjdipmaaRow
namespace Go.Proofs.Ytnggimkkjdipmaa
open Go.RowKit
set_option linter.unusedVariables false
set_option linter.unusedSimpArgs false
/-! ### Tables, plain -/
structure Tb where
  st : Int
  ev : Int
  sr : Int
  rows : List (List (Int × Int))
def rowOk (st : Int) (r : Int × Int) : Bool := decide (-1 ≤ r.1) && decide (r.1 < st) && decide (0 ≤ r.2) && decide (r.2 ≤ 999) && (decide (0 ≤ r.1) || decide (r.2 = 0))
def rowsOk (T : Tb) : Bool := T.rows.all fun l => decide ((l.length : Int) = T.ev) && l.all (rowOk T.st)
def headOk (T : Tb) : Bool := decide (1 ≤ T.st) && decide (T.st ≤ 30) && decide (1 ≤ T.ev) && decide (T.ev ≤ 12) && decide (0 ≤ T.sr) && decide (T.sr < T.st) && decide ((T.rows.length : Int) = T.st)
def validT (T : Tb) : Bool := headOk T && rowsOk T
/-- What a valid table is good for. -/
structure VT (T : Tb) : Prop where
  st : 1 ≤ T.st ∧ T.st ≤ 30
  ev : 1 ≤ T.ev ∧ T.ev ≤ 12
  sr : 0 ≤ T.sr ∧ T.sr < T.st
  rows : (T.rows.length : Int) = T.st
  row : ∀ l ∈ T.rows, (l.length : Int) = T.ev
  cell : ∀ l ∈ T.rows, ∀ r ∈ l, -1 ≤ r.1 ∧ r.1 < T.st ∧ 0 ≤ r.2 ∧ r.2 ≤ 999 ∧ (r.1 < 0 → r.2 = 0)
theorem validT_iff (T : Tb) : validT T = true ↔ VT T := by
  constructor
  · intro h
    simp only [validT, headOk, rowsOk, rowOk, Bool.and_eq_true, Bool.or_eq_true, decide_eq_true_eq, List.all_eq_true] at h
    obtain ⟨⟨⟨⟨⟨⟨⟨h1, h2⟩, h3⟩, h4⟩, h5⟩, h6⟩, h7⟩, h8⟩ := h
    refine ⟨⟨h1, h2⟩, ⟨h3, h4⟩, ⟨h5, h6⟩, h7, fun l hl => (h8 l hl).1, fun l hl r hr => ?_⟩
    have := (h8 l hl).2 r hr
    omega
  · intro h
    simp only [validT, headOk, rowsOk, rowOk, Bool.and_eq_true, Bool.or_eq_true, decide_eq_true_eq, List.all_eq_true]
    refine ⟨⟨⟨⟨⟨⟨⟨h.st.1, h.st.2⟩, h.ev.1⟩, h.ev.2⟩, h.sr.1⟩, h.sr.2⟩, h.rows⟩, fun l hl => ⟨h.row l hl, fun r hr => ?_⟩⟩
    have := h.cell l hl r hr
    omega
/-- The row of a state at an event. -/
def Tb.at (T : Tb) (s e : Int) : Int × Int := (T.rows.getD s.toNat []).getD e.toNat (-1, 0)
theorem VT.len {T : Tb} (h : VT T) {s : Int} (h0 : 0 ≤ s) (h1 : s < T.st) : s.toNat < T.rows.length := by have := h.rows; omega
theorem VT.get {T : Tb} (h : VT T) {s e : Int} (h0 : 0 ≤ s) (h1 : s < T.st) (g0 : 0 ≤ e) (g1 : e < T.ev) :
    ∃ (hs : s.toNat < T.rows.length) (he : e.toNat < T.rows[s.toNat].length), T.at s e = T.rows[s.toNat][e.toNat] := by
  have hs := h.len h0 h1
  have hl := h.row _ (List.getElem_mem hs)
  have he : e.toNat < T.rows[s.toNat].length := by omega
  refine ⟨hs, he, ?_⟩
  unfold Tb.at
  rw [List.getD_eq_getElem?_getD, List.getD_eq_getElem?_getD, List.getElem?_eq_getElem hs]
  simp only [Option.getD_some]
  rw [List.getElem?_eq_getElem he]
  rfl
theorem VT.atOk {T : Tb} (h : VT T) {s e : Int} (h0 : 0 ≤ s) (h1 : s < T.st) (g0 : 0 ≤ e) (g1 : e < T.ev) :
    -1 ≤ (T.at s e).1 ∧ (T.at s e).1 < T.st ∧ 0 ≤ (T.at s e).2 ∧ (T.at s e).2 ≤ 999 ∧ ((T.at s e).1 < 0 → (T.at s e).2 = 0) := by
  obtain ⟨hs, he, e1⟩ := h.get h0 h1 g0 g1
  rw [e1]
  exact h.cell _ (List.getElem_mem hs) _ (List.getElem_mem he)
/-- The outputs of a word, and the state behind. -/
def Tb.run (T : Tb) : Int → List Int → List Int × Int
  | s, [] => ([], s)
  | s, e :: w => if (T.at s e).1 < 0 then ([], s) else ((T.at s e).2 :: (T.run (T.at s e).1 w).1, (T.run (T.at s e).1 w).2)
def Tb.worded (T : Tb) (w : List Int) : Bool := decide (w.length ≤ 200) && w.all fun e => decide (0 ≤ e) && decide (e < T.ev)
def Tb.has (T : Tb) (s : Int) : Bool := decide (0 ≤ s) && decide (s < T.st)
theorem Tb.run_len (T : Tb) : ∀ (w : List Int) (s : Int), (T.run s w).1.length ≤ w.length
  | [], s => by simp [Tb.run]
  | e :: w, s => by
    unfold Tb.run
    split
    · simp
    · have := Tb.run_len T w (T.at s e).1
      simp; omega
/-- Run. -/
def Tb.Run (T : Tb) (s : Int) (w : List Int) : List Int × Int × Int := if validT T && T.has s && T.worded w then ((T.run s w).1, (T.run s w).2, 0) else ([], 0, 1)
end Go.Proofs.Ytnggimkkjdipmaa
namespace Go.Proofs.Ytnggimkkjdipmaa
open Go.RowKit
set_option linter.unusedVariables false
set_option linter.unusedSimpArgs false
/-! ### Numbers in the order of the first time -/
section
variable {κ : Type} [DecidableEq κ]
def addK (known : List κ) (k : κ) : List κ := if k ∈ known then known else known ++ [k]
/-- Each key's number, and the keys. -/
def numG : List κ → List κ → List Nat × List κ
  | known, [] => ([], known)
  | known, k :: ks => ((addK known k).idxOf k :: (numG (addK known k) ks).1, (numG (addK known k) ks).2)
theorem mem_addK (known : List κ) (k x : κ) : x ∈ addK known k ↔ x ∈ known ∨ x = k := by
  unfold addK; split
  · exact ⟨.inl, fun h => by rcases h with h | rfl <;> assumption⟩
  · simp
theorem nodup_addK {known : List κ} (h : known.Nodup) (k : κ) : (addK known k).Nodup := by
  unfold addK; split
  · exact h
  · rename_i hk
    rw [List.nodup_append]
    exact ⟨h, by simp, fun a ha b hb => by simp at hb; subst hb; exact fun e => hk (e ▸ ha)⟩
theorem addK_pre (known : List κ) (k : κ) : known <+: addK known k := by
  unfold addK; split
  · exact List.prefix_refl _
  · exact List.prefix_append _ _
theorem numG_len : ∀ (ks known : List κ), (numG known ks).1.length = ks.length
  | [], _ => rfl
  | k :: ks, known => by simp [numG, numG_len ks]
theorem numG_mem : ∀ (ks known : List κ) (x : κ), x ∈ (numG known ks).2 ↔ x ∈ known ∨ x ∈ ks
  | [], _, x => by simp [numG]
  | k :: ks, known, x => by
    simp only [numG, numG_mem ks, mem_addK, List.mem_cons]
    exact ⟨fun h => by rcases h with (h | h) | h; exact .inl h; exact .inr (.inl h); exact .inr (.inr h), fun h => by rcases h with h | h | h; exact .inl (.inl h); exact .inl (.inr h); exact .inr h⟩
theorem numG_nodup : ∀ (ks known : List κ), known.Nodup → (numG known ks).2.Nodup
  | [], _, h => h
  | k :: ks, known, h => by simp only [numG]; exact numG_nodup ks _ (nodup_addK h k)
theorem numG_pre : ∀ (ks known : List κ), known <+: (numG known ks).2
  | [], _ => List.prefix_refl _
  | k :: ks, known => by simp only [numG]; exact (addK_pre known k).trans (numG_pre ks _)
theorem numG_snoc : ∀ (ks known : List κ) (k : κ), numG known (ks ++ [k]) = ((numG known ks).1 ++ [(addK (numG known ks).2 k).idxOf k], addK (numG known ks).2 k)
  | [], known, k => by simp [numG]
  | x :: ks, known, k => by simp [numG, numG_snoc ks]
theorem len_addK (known : List κ) (k : κ) : (addK known k).length ≤ known.length + 1 := by
  unfold addK; split <;> simp
theorem numG_le (ks : List κ) : ∀ known : List κ, (numG known ks).2.length ≤ known.length + ks.length := by
  induction ks with
  | nil => intro known; simp [numG]
  | cons k ks ih => intro known; have h1 := ih (addK known k); have h2 := len_addK known k; simp only [numG, List.length_cons]; omega
theorem pigeon : ∀ (l m : List κ), l.Nodup → (∀ x ∈ l, x ∈ m) → l.length ≤ m.length
  | [], _, _, _ => by simp
  | x :: l, m, h, hs => by
    have h' := List.nodup_cons.mp h
    have := pigeon l (m.erase x) h'.2 (fun y hy => (List.mem_erase_of_ne (fun e => h'.1 (by rw [← e]; exact hy))).mpr (hs y (by simp [hy])))
    have hm := hs x (by simp)
    rw [List.length_erase_of_mem hm] at this
    have hp : 0 < m.length := List.length_pos_of_mem hm
    simp only [List.length_cons]
    omega
end
/-- Coarser keys have no more numbers. -/
theorem numG_coarse {κ μ : Type} [DecidableEq κ] [DecidableEq μ] (ks : List κ) (h : κ → μ) : (numG [] (ks.map h)).2.length ≤ (numG [] ks).2.length := by
  have h1 := pigeon (numG [] (ks.map h)).2 ((numG [] ks).2.map h) (numG_nodup _ _ List.nodup_nil) (fun x hx => by
    rw [numG_mem] at hx
    simp only [List.not_mem_nil, false_or] at hx
    obtain ⟨k, hk, rfl⟩ := List.mem_map.mp hx
    exact List.mem_map.mpr ⟨k, (numG_mem _ _ _).mpr (.inr hk), rfl⟩)
  simpa using h1
/-- The numbers, told apart as the keys are. -/
theorem numG_get {κ : Type} [DecidableEq κ] : ∀ (ks known : List κ) (i : Nat) (h : i < ks.length), known.Nodup →
    ∃ h', ((numG known ks).1)[i]'h' = (numG known ks).2.idxOf ks[i]
  | k :: ks, known, 0, h, hn => by
    refine ⟨by simp [numG], ?_⟩
    simp only [numG, List.getElem_cons_zero]
    have hk : k ∈ addK known k := (mem_addK _ _ _).mpr (.inr rfl)
    obtain ⟨t, ht⟩ := numG_pre ks (addK known k)
    rw [← ht, List.idxOf_append]
    simp [hk]
  | k :: ks, known, i + 1, h, hn => by
    obtain ⟨h', e⟩ := numG_get ks (addK known k) i (by simpa using h) (nodup_addK hn k)
    refine ⟨by simp [numG]; have := numG_len ks (addK known k); simp at h; omega, ?_⟩
    simp only [numG, List.getElem_cons_succ]
    exact e
theorem idx_lt {κ : Type} [DecidableEq κ] (l : List κ) (k : κ) (h : k ∈ l) : l.idxOf k < l.length := List.idxOf_lt_length_of_mem h
theorem idxOf_inj {κ : Type} [DecidableEq κ] (l : List κ) (a b : κ) (ha : a ∈ l) (h : l.idxOf a = l.idxOf b) : a = b := by
  have h1 := List.idxOf_lt_length_of_mem ha
  have e1 : l[l.idxOf a]'h1 = a := List.getElem_idxOf h1
  have h2 : l.idxOf b < l.length := h ▸ h1
  have e2 : l[l.idxOf b]'h2 = b := List.getElem_idxOf h2
  rw [← e1, ← e2]
  congr 1
end Go.Proofs.Ytnggimkkjdipmaa
namespace Go.Proofs.Ytnggimkkjdipmaa
open Go.RowKit
set_option linter.unusedVariables false
set_option linter.unusedSimpArgs false
/-! ### classes, walk, least: as the program reckons -/
def gI (l : List Int) (i : Int) : Int := l.getD i.toNat 0
def rowKey (class_ : List Int) (r : Int × Int) : List Int := if r.1 < 0 then [-1, 0] else [r.2, gI class_ r.1]
def keyL (class_ : List Int) (s : Nat) (l : List (Int × Int)) : List Int := gI class_ s :: l.flatMap (rowKey class_)
def byteI (n : Int) : UInt8 := UInt8.ofNat (n % 256).toNat
def keyB (l : List Int) : List UInt8 := l.flatMap fun n => [byteI ((n + 1) / 256), byteI (n + 1)]
/-- The keys of all states, from the s-th on. -/
def keysFrom (class_ : List Int) : Nat → List (List (Int × Int)) → List (List UInt8)
  | _, [] => []
  | s, l :: ls => keyB (keyL class_ s l) :: keysFrom class_ (s + 1) ls
def keysT (T : Tb) (class_ : List Int) : List (List UInt8) := keysFrom class_ 0 T.rows
def toI (l : List Nat) : List Int := l.map Int.ofNat
def roundC (T : Tb) (class_ : List Int) : List Int × Nat := (toI (numG [] (keysT T class_)).1, (numG [] (keysT T class_)).2.length)
def classF (T : Tb) : Nat → List Int → Nat → List Int
  | 0, c, _ => c
  | f + 1, c, n => if (roundC T c).2 = n then (roundC T c).1 else classF T f (roundC T c).1 (roundC T c).2
def class0 (T : Tb) : List Int := List.replicate T.st.toNat 0
def classes (T : Tb) : List Int := classF T 40 (class0 T) 1
theorem keysFrom_len (c : List Int) : ∀ (s : Nat) (ls : List (List (Int × Int))), (keysFrom c s ls).length = ls.length
  | _, [] => rfl
  | s, l :: ls => by simp [keysFrom, keysFrom_len c]
theorem keysFrom_get (c : List Int) : ∀ (ls : List (List (Int × Int))) (s i : Nat) (h : i < ls.length), ∃ h', (keysFrom c s ls)[i]'h' = keyB (keyL c (s + i) ls[i])
  | l :: ls, s, 0, h => ⟨by simp [keysFrom], by simp [keysFrom]⟩
  | l :: ls, s, i + 1, h => by
    obtain ⟨h', e⟩ := keysFrom_get c ls (s + 1) i (by simpa using h)
    refine ⟨by rw [keysFrom_len]; exact h, ?_⟩
    simp only [keysFrom, List.getElem_cons_succ]
    rw [e, Nat.add_assoc, Nat.add_comm 1 i]
theorem keysFrom_snoc (c : List Int) : ∀ (ls : List (List (Int × Int))) (s : Nat) (l : List (Int × Int)), keysFrom c s (ls ++ [l]) = keysFrom c s ls ++ [keyB (keyL c (s + ls.length) l)]
  | [], s, l => by simp [keysFrom]
  | x :: ls, s, l => by simp [keysFrom, keysFrom_snoc c ls]; congr 2; omega
/-- The class that a key begins with. -/
def headB (b : List UInt8) : Int := ((b.getD 0 0).toNat : Int) * 256 + ((b.getD 1 0).toNat : Int) - 1
theorem headB_key (a : Int) (l : List Int) (h0 : 0 ≤ a) (h1 : a ≤ 1000) : headB (keyB (a :: l)) = a := by
  unfold headB keyB byteI
  simp
  omega
/-- What classes are while they are reckoned: numbers of keys. -/
structure ClOk (T : Tb) (c : List Int) (n : Nat) : Prop where
  len : c.length = T.rows.length
  rng : ∀ x ∈ c, 0 ≤ x ∧ x < n
  num : (numG [] c).2.length = n
  le : n ≤ T.rows.length
theorem keys_heads {T : Tb} {c : List Int} {n : Nat} (h : ClOk T c n) (hn : T.rows.length ≤ 30) : (keysT T c).map headB = c := by
  apply List.ext_getElem
  · rw [List.length_map, keysT, keysFrom_len, h.len]
  · intro i h1 h2
    rw [List.getElem_map]
    obtain ⟨h', e⟩ := keysFrom_get c T.rows 0 i (by rw [← h.len]; exact h2)
    unfold keysT
    rw [e]
    have hr := h.rng _ (List.getElem_mem h2)
    have hle := h.le
    have hg : gI c ((0 + i : Nat) : Int) = c[i] := by
      unfold gI
      rw [List.getD_eq_getElem?_getD, show ((0 + i : Nat) : Int).toNat = i by omega, List.getElem?_eq_getElem h2]; rfl
    unfold keyL
    rw [hg]
    exact headB_key _ _ hr.1 (by omega)
theorem numG_ofNat_len {κ : Type} [DecidableEq κ] (ks : List κ) : (numG [] (toI (numG [] ks).1)).2.length = (numG [] ks).2.length := by
  have hlen := numG_len ks []
  have hget := fun i h => numG_get ks [] i h List.nodup_nil
  apply Nat.le_antisymm
  · -- numbers are a function of the keys
    have : toI (numG [] ks).1 = ks.map (fun k => ((numG [] ks).2.idxOf k : Int)) := by
      apply List.ext_getElem
      · simp [toI, hlen]
      · intro i h1 h2
        obtain ⟨h', e⟩ := hget i (by simpa using h2)
        simp [toI, e]
    rw [this]
    exact numG_coarse ks _
  · -- and the keys of the numbers
    have hne : ∀ (z : κ), ks = (toI (numG [] ks).1).map (fun x => (numG [] ks).2.getD x.toNat z) := fun z => by
      apply List.ext_getElem
      · simp [toI, hlen]
      · intro i h1 h2
        obtain ⟨h', e⟩ := hget i h1
        have hm : ks[i] ∈ (numG [] ks).2 := (numG_mem _ _ _).mpr (.inr (List.getElem_mem h1))
        simp [toI, e, List.getElem?_eq_getElem (List.idxOf_lt_length_of_mem hm)]
    cases ks with
    | nil => simp [numG, toI]
    | cons z t =>
      have := numG_coarse (toI (numG [] (z :: t)).1) (fun x => (numG [] (z :: t)).2.getD x.toNat z)
      rw [← hne z] at this
      exact this
theorem ClOk.round {T : Tb} {c : List Int} {n : Nat} (h : ClOk T c n) (hn : T.rows.length ≤ 30) : ClOk T (roundC T c).1 (roundC T c).2 ∧ n ≤ (roundC T c).2 := by
  have hk : (keysT T c).length = T.rows.length := keysFrom_len c 0 T.rows
  refine ⟨⟨?_, fun x hx => ?_, numG_ofNat_len _, ?_⟩, ?_⟩
  · show (toI _).length = _
    rw [toI, List.length_map, numG_len, hk]
  · replace hx : x ∈ toI (numG [] (keysT T c)).1 := hx
    obtain ⟨y, hy, rfl⟩ := List.mem_map.mp hx
    obtain ⟨i, hi, rfl⟩ := List.getElem_of_mem hy
    obtain ⟨h', e⟩ := numG_get (keysT T c) [] i (by rw [numG_len] at hi; exact hi) List.nodup_nil
    rw [e]
    have hm : (keysT T c)[i]'(by rw [numG_len] at hi; exact hi) ∈ (numG [] (keysT T c)).2 := (numG_mem _ _ _).mpr (.inr (List.getElem_mem _))
    have := idx_lt _ _ hm
    show (0 : Int) ≤ Int.ofNat _ ∧ Int.ofNat _ < ((numG [] (keysT T c)).2.length : Int)
    constructor
    · exact Int.natCast_nonneg _
    · exact Int.ofNat_lt.mpr this
  · have := numG_le (keysT T c) []
    simp at this
    show (numG [] (keysT T c)).2.length ≤ _
    omega
  · have := numG_coarse (keysT T c) headB
    rw [keys_heads h hn, h.num] at this
    exact this
theorem ClOk.start {T : Tb} (h : VT T) : ClOk T (class0 T) 1 := by
  have h1 := h.rows; have h2 := h.st
  refine ⟨by simp [class0]; omega, fun x hx => ?_, ?_, by omega⟩
  · rw [class0, List.mem_replicate] at hx; omega
  · have hk : ∀ (k : Nat) (known : List Int), 0 ∈ known → (numG known (List.replicate k (0 : Int))).2 = known := by
      intro k
      induction k with
      | zero => intro known _; rfl
      | succ k ih =>
        intro known hm
        rw [List.replicate_succ]
        have : addK known 0 = known := by unfold addK; rw [if_pos hm]
        simp only [numG, this]
        exact ih known hm
    obtain ⟨k, hk1⟩ : ∃ k, T.st.toNat = k + 1 := ⟨T.st.toNat - 1, by omega⟩
    unfold class0
    rw [hk1, List.replicate_succ]
    have : addK ([] : List Int) 0 = [0] := rfl
    simp only [numG, this]
    rw [hk k [0] (by simp)]
    rfl
/-- More fuel changes nothing. -/
theorem classF_more (T : Tb) (hn : T.rows.length ≤ 30) : ∀ (f g : Nat) (c : List Int) (n : Nat), ClOk T c n → 31 - n ≤ f → 31 - n ≤ g → classF T f c n = classF T g c n
  | 0, _, _, n, h, hf, _ => by have := h.le; omega
  | _ + 1, 0, _, n, h, _, hg => by have := h.le; omega
  | f + 1, g + 1, c, n, h, hf, hg => by
    unfold classF
    split
    · rfl
    · rename_i hne
      obtain ⟨h1, h2⟩ := h.round hn
      exact classF_more T hn f g _ _ h1 (by omega) (by omega)
/-! #### walk -/
/-- One event of the state that is looked at. -/
def wStep (word : List Int) (L : List (Int × List Int)) (e : Nat) (r : Int × Int) : List (Int × List Int) := if 0 ≤ r.1 ∧ ¬ L.any (fun x => x.1 == r.1) then L ++ [(r.1, word ++ [(e : Int)])] else L
def wRow (word : List Int) : Nat → List (Int × Int) → List (Int × List Int) → List (Int × List Int)
  | _, [], L => L
  | e, r :: rs, L => wRow word (e + 1) rs (wStep word L e r)
def wRound (T : Tb) (i : Nat) (L : List (Int × List Int)) : List (Int × List Int) := wRow (L.getD i (0, [])).2 0 (T.rows.getD (L.getD i (0, [])).1.toNat []) L
def walkF (T : Tb) : Nat → Nat → List (Int × List Int) → List (Int × List Int)
  | 0, _, L => L
  | f + 1, i, L => if i < L.length then walkF T f (i + 1) (wRound T i L) else L
def walkT (T : Tb) : List (Int × List Int) := walkF T 40 0 [(T.sr, [])]
def orderT (T : Tb) : List Int := (walkT T).map (·.1)
/-! #### least -/
def leastRow (cls keys : List Int) (r : Int × Int) : Int × Int := if 0 ≤ r.1 then ((keys.idxOf (gI cls r.1) : Int), r.2) else r
def membersOf (cls : List Int) : List Int → List Int → List Int → List Int × List Int
  | [], known, mem => (known, mem)
  | s :: order, known, mem => if gI cls s ∈ known then membersOf cls order known mem else membersOf cls order (known ++ [gI cls s]) (mem ++ [s])
end Go.Proofs.Ytnggimkkjdipmaa
