import Derived.Test.YtkfkkglodjehpaaTS1
namespace Go.Proofs.Ytkfkkglodjehpaa
open Go.RowKit
set_option linter.unusedVariables false
set_option linter.unusedSimpArgs false
/-! ### The walk meets all that can be reached; the least table tells the same -/
abbrev keyW (L : List (Int × List Int)) : List Int := L.map (·.1)
theorem wStep_law (word : List Int) (L : List (Int × List Int)) (e : Nat) (r : Int × Int) :
    (∃ t, wStep word L e r = L ++ t) ∧ (0 ≤ r.1 → r.1 ∈ keyW (wStep word L e r)) ∧ ∀ x ∈ keyW (wStep word L e r), x ∈ keyW L ∨ (0 ≤ r.1 ∧ x = r.1) := by
  unfold wStep
  rw [any_keys]
  split
  · rename_i h
    refine ⟨⟨_, rfl⟩, fun _ => by simp, fun x hx => ?_⟩
    simp only [keyW, List.map_append, List.mem_append, List.map_cons, List.map_nil, List.mem_singleton] at hx
    rcases hx with hx | hx
    · exact .inl hx
    · exact .inr ⟨h.1, hx⟩
  · rename_i h
    refine ⟨⟨[], by simp⟩, fun h0 => ?_, fun x hx => .inl hx⟩
    simp only [decide_eq_true_eq, not_and, Classical.not_not] at h
    exact h h0
theorem wRow_law (word : List Int) : ∀ (rs : List (Int × Int)) (e : Nat) (L : List (Int × List Int)),
    (∃ t, wRow word e rs L = L ++ t) ∧ (∀ r ∈ rs, 0 ≤ r.1 → r.1 ∈ keyW (wRow word e rs L)) ∧ ∀ x ∈ keyW (wRow word e rs L), x ∈ keyW L ∨ ∃ r ∈ rs, 0 ≤ r.1 ∧ x = r.1
  | [], e, L => ⟨⟨[], by simp [wRow]⟩, fun r hr => by simp at hr, fun x hx => .inl hx⟩
  | r :: rs, e, L => by
    rw [wRow_cons]
    obtain ⟨⟨t, h1⟩, h2, h3⟩ := wStep_law word L e r
    obtain ⟨⟨t', g1⟩, g2, g3⟩ := wRow_law word rs (e + 1) (wStep word L e r)
    refine ⟨⟨t ++ t', by rw [g1, h1, List.append_assoc]⟩, fun q hq h0 => ?_, fun x hx => ?_⟩
    · rcases List.mem_cons.mp hq with rfl | hq
      · rw [g1, keyW, List.map_append]; exact List.mem_append.mpr (.inl (h2 h0))
      · exact g2 q hq h0
    · rcases g3 x hx with h4 | ⟨q, hq, h5⟩
      · rcases h3 x h4 with h6 | h6
        · exact .inl h6
        · exact .inr ⟨r, by simp, h6⟩
      · exact .inr ⟨q, by simp [hq], h5⟩
theorem row_at {T : Tb} (hT : VT T) {s : Int} (hs : 0 ≤ s ∧ s < T.st) : (∀ r ∈ T.rows.getD s.toNat [], ∃ e : Int, 0 ≤ e ∧ e < T.ev ∧ r = T.at s e) ∧ (∀ e : Int, 0 ≤ e → e < T.ev → T.at s e ∈ T.rows.getD s.toNat []) ∧ ((T.rows.getD s.toNat []).length : Int) = T.ev := by
  have h1 := hT.len hs.1 hs.2
  have r1 := hT.row _ (List.getElem_mem h1)
  have e1 : T.rows.getD s.toNat [] = T.rows[s.toNat] := by rw [List.getD_eq_getElem?_getD, List.getElem?_eq_getElem h1]; rfl
  rw [e1]
  refine ⟨fun r hr => ?_, fun e h0 h2 => ?_, r1⟩
  · obtain ⟨j, hj, rfl⟩ := List.getElem_of_mem hr
    obtain ⟨_, _, e2⟩ := hT.get (s := s) (e := (j : Int)) hs.1 hs.2 (by omega) (by omega)
    exact ⟨(j : Int), by omega, by omega, by rw [e2]; rfl⟩
  · obtain ⟨_, he, e2⟩ := hT.get (s := s) (e := e) hs.1 hs.2 h0 h2
    rw [e2]; exact List.getElem_mem he
/-- A list of states that holds what follows. -/
def CloW (T : Tb) (S : List Int) (s : Int) : Prop := ∀ e : Int, 0 ≤ e → e < T.ev → 0 ≤ (T.at s e).1 → (T.at s e).1 ∈ S
theorem walkF_law {T : Tb} (hT : VT T) : ∀ (f i : Nat) (L : List (Int × List Int)), f + i = 40 → WOk T L → (∃ t, L = (T.sr, []) :: t) → (∀ k (h : k < L.length), k < i → CloW T (keyW L) L[k].1) →
    WOk T (walkF T f i L) ∧ (∃ t, walkF T f i L = (T.sr, []) :: t) ∧ ∀ s ∈ keyW (walkF T f i L), CloW T (keyW (walkF T f i L)) s
  | 0, i, L, hf, hO, hr, hC => by
    have hle := hO.le
    have := hT.st
    refine ⟨hO, hr, fun s hs => ?_⟩
    obtain ⟨k, hk, rfl⟩ := List.getElem_of_mem hs
    simp only [walkF, keyW, List.length_map] at hk
    have := hC k hk (by omega)
    simpa [walkF, keyW] using this
  | f + 1, i, L, hf, hO, hr, hC => by
    unfold walkF
    by_cases hlt : i < L.length
    · rw [if_pos hlt]
      have hrg := hO.rng _ (List.getElem_mem hlt)
      have e0 : L.getD i (0, []) = L[i] := by rw [List.getD_eq_getElem?_getD, List.getElem?_eq_getElem hlt]; rfl
      obtain ⟨hr1, hr2, _⟩ := row_at hT (s := L[i].1) hrg
      unfold wRound
      rw [e0]
      obtain ⟨⟨t, h1⟩, h2, h3⟩ := wRow_law L[i].2 (T.rows.getD L[i].1.toNat []) 0 L
      have hO' := (wRow_ok (T := T) (fun _ => trivial) L[i].2 (T.rows.getD L[i].1.toNat []) 0 L (fun r hr => by
        obtain ⟨e, g0, g1, rfl⟩ := hr1 r hr
        exact (hT.atOk hrg.1 hrg.2 g0 g1).2.1) hO (by have := hO.len i hlt; omega)).1
      refine walkF_law hT f (i + 1) _ (by omega) hO' ?_ (fun k hk hki => ?_)
      · obtain ⟨t', rfl⟩ := hr
        exact ⟨t' ++ t, by rw [h1]; rfl⟩
      · by_cases hke : k < i
        · have hkl : k < L.length := by omega
          have e2 : (wRow L[i].2 0 (T.rows.getD L[i].1.toNat []) L)[k] = L[k] := by simp only [h1]; rw [List.getElem_append_left hkl]
          rw [e2]
          intro e g0 g1 hn
          rw [h1, keyW, List.map_append]
          exact List.mem_append.mpr (.inl (hC k hkl hke e g0 g1 hn))
        · obtain rfl : k = i := by omega
          have e2 : (wRow L[k].2 0 (T.rows.getD L[k].1.toNat []) L)[k] = L[k] := by simp only [h1]; rw [List.getElem_append_left hlt]
          rw [e2]
          intro e g0 g1 hn
          exact h2 _ (hr2 e g0 g1) hn
    · rw [if_neg hlt]
      refine ⟨hO, hr, fun s hs => ?_⟩
      obtain ⟨k, hk, rfl⟩ := List.getElem_of_mem hs
      simp only [keyW, List.length_map] at hk
      have := hC k hk (by omega)
      simpa [keyW] using this
structure OrOk (T : Tb) (o : List Int) : Prop where
  nd : o.Nodup
  rng : ∀ s ∈ o, 0 ≤ s ∧ s < T.st
  hd : ∃ t, o = T.sr :: t
  clo : ∀ s ∈ o, CloW T o s
  len : o.length ≤ T.st.toNat
theorem order_ok {T : Tb} (hT : VT T) : OrOk T (orderT T) := by
  obtain ⟨h1, ⟨t, h2⟩, h3⟩ := walkF_law hT 40 0 _ rfl (WOk.start hT) ⟨[], rfl⟩ (fun k hk hki => by omega)
  refine ⟨h1.nd, fun s hs => ?_, ⟨keyW t, ?_⟩, h3, ?_⟩
  · obtain ⟨x, hx, rfl⟩ := List.mem_map.mp hs
    exact h1.rng x hx
  · show keyW (walkF T 40 0 [(T.sr, [])]) = _
    rw [h2]; rfl
  · have := h1.le
    show (keyW (walkF T 40 0 [(T.sr, [])])).length ≤ _
    simpa using this
/-! #### members -/
theorem memF_law (cls : List Int) : ∀ (o mem : List Int), (mem.map (gI cls)).Nodup → ((memF cls o mem).map (gI cls)).Nodup ∧ (∃ t, memF cls o mem = mem ++ t) ∧ ∀ s ∈ o, gI cls s ∈ (memF cls o mem).map (gI cls)
  | [], mem, h => ⟨h, ⟨[], by simp [memF]⟩, fun s hs => by simp at hs⟩
  | s :: o, mem, h => by
    have hm : memF cls (s :: o) mem = memF cls o (if gI cls s ∈ mem.map (gI cls) then mem else mem ++ [s]) := rfl
    rw [hm]
    by_cases hc : gI cls s ∈ mem.map (gI cls)
    · rw [if_pos hc]
      obtain ⟨h1, ⟨t, h2⟩, h3⟩ := memF_law cls o mem h
      refine ⟨h1, ⟨t, h2⟩, fun x hx => ?_⟩
      rcases List.mem_cons.mp hx with rfl | hx
      · rw [h2, List.map_append]; exact List.mem_append.mpr (.inl hc)
      · exact h3 x hx
    · rw [if_neg hc]
      obtain ⟨h1, ⟨t, h2⟩, h3⟩ := memF_law cls o (mem ++ [s]) (by
        rw [List.map_append, List.nodup_append]
        refine ⟨h, by simp, fun a ha b hb => ?_⟩
        simp at hb; subst hb
        rintro rfl; exact hc ha)
      refine ⟨h1, ⟨[s] ++ t, by rw [h2, List.append_assoc]⟩, fun x hx => ?_⟩
      rcases List.mem_cons.mp hx with rfl | hx
      · rw [h2]; simp
      · exact h3 x hx
structure MeOk (T : Tb) : Prop where
  nd : ((mems T).map (gI (classes T))).Nodup
  hd : ∃ t, mems T = T.sr :: t
  rng : ∀ s ∈ mems T, 0 ≤ s ∧ s < T.st
  cov : ∀ s ∈ orderT T, gI (classes T) s ∈ (mems T).map (gI (classes T))
  sub : ∀ s ∈ mems T, s ∈ orderT T
  len : (mems T).length ≤ T.st.toNat
theorem mems_ok {T : Tb} (hT : VT T) : MeOk T := by
  have hO := order_ok hT
  obtain ⟨h1, _, h3⟩ := memF_law (classes T) (orderT T) [] (by simp)
  have hsub : ∀ s ∈ mems T, s ∈ orderT T := fun s hs => by
    rcases memF_mem _ _ _ _ hs with h | h
    · simp at h
    · exact h
  refine ⟨h1, ?_, fun s hs => hO.rng s (hsub s hs), h3, hsub, ?_⟩
  · obtain ⟨t, ht⟩ := hO.hd
    unfold mems
    rw [ht]
    have hm : memF (classes T) (T.sr :: t) [] = memF (classes T) t [T.sr] := rfl
    rw [hm]
    obtain ⟨_, ⟨t', h2⟩, _⟩ := memF_law (classes T) t [T.sr] (by simp)
    exact ⟨t', h2⟩
  · have := memF_len (classes T) (orderT T) []
    have := hO.len
    unfold mems
    simp at *
    omega
/-- A state of the least table, and the states that it stands for. -/
def RelL (T : Tb) (k s : Int) : Prop := 0 ≤ k ∧ k < (mems T).length ∧ 0 ≤ s ∧ s < T.st ∧ gI (classes T) s = gI (classes T) ((mems T).getD k.toNat 0)
theorem mem_get {T : Tb} {k : Int} (h0 : 0 ≤ k) (h1 : k < (mems T).length) : ∃ h : k.toNat < (mems T).length, (mems T).getD k.toNat 0 = (mems T)[k.toNat] := by
  have h : k.toNat < (mems T).length := by omega
  exact ⟨h, by rw [List.getD_eq_getElem?_getD, List.getElem?_eq_getElem h]; rfl⟩
theorem least_at {T : Tb} (hT : VT T) {k e : Int} (h0 : 0 ≤ k) (h1 : k < (mems T).length) (g0 : 0 ≤ e) (g1 : e < T.ev) : (leastT T).at k e = leastR (classes T) ((mems T).map (gI (classes T))) (T.at ((mems T).getD k.toNat 0) e) := by
  obtain ⟨h, e1⟩ := mem_get h0 h1
  have hm := (mems_ok hT).rng _ (List.getElem_mem h)
  obtain ⟨_, _, hl⟩ := row_at hT (s := (mems T)[k.toNat]) hm
  have hrow : (leastT T).rows.getD k.toNat [] = (T.rows.getD ((mems T)[k.toNat]).toNat []).map (leastR (classes T) ((mems T).map (gI (classes T)))) := by
    show (leastRows T).getD k.toNat [] = _
    unfold leastRows
    rw [List.getD_eq_getElem?_getD, List.getElem?_map, List.getElem?_eq_getElem h]; rfl
  rw [e1]
  unfold Tb.at
  rw [hrow]
  have hel : e.toNat < (T.rows.getD ((mems T)[k.toNat]).toNat []).length := by omega
  rw [List.getD_eq_getElem?_getD, List.getD_eq_getElem?_getD (l := T.rows.getD _ _), List.getElem?_map, List.getElem?_eq_getElem hel]
  rfl
theorem rel_step {T : Tb} (hT : VT T) {k s e : Int} (h : RelL T k s) (g0 : 0 ≤ e) (g1 : e < T.ev) : diffR (T.at s e) ((leastT T).at k e) = false ∧ (0 ≤ (T.at s e).1 → RelL T ((leastT T).at k e).1 (T.at s e).1) := by
  obtain ⟨h0, h1, h2, h3, h4⟩ := h
  have hM := mems_ok hT
  obtain ⟨hk, e1⟩ := mem_get h0 h1
  rw [least_at hT h0 h1 g0 g1]
  rw [e1] at h4 ⊢
  have hm := hM.rng _ (List.getElem_mem hk)
  have hB := classes_bis hT
  obtain ⟨g2, g3⟩ := hB.same s _ ⟨h2, h3⟩ hm h4 e g0 g1
  have g4 := diffR_false.mp g2
  have r1 := hT.atOk h2 h3 g0 g1
  have r2 := hT.atOk hm.1 hm.2 g0 g1
  unfold leastR
  by_cases hn : 0 ≤ (T.at (mems T)[k.toNat] e).1
  · rw [if_pos hn]
    have hor := (order_ok hT).clo _ (hM.sub _ (List.getElem_mem hk)) e g0 g1 hn
    have hc := hM.cov _ hor
    rw [if_pos hc]
    have hi := idx_lt _ _ hc
    refine ⟨diffR_false.mpr ⟨⟨fun h => ?_, fun h => ?_⟩, g4.2⟩, fun hs0 => ⟨by dsimp only; omega, by dsimp only; simp at hi; omega, hs0, r1.2.1, ?_⟩⟩
    · have := g4.1; omega
    · dsimp only at h; omega
    · rw [g3 hs0]
      dsimp only
      rw [Int.toNat_natCast]
      have hi' : List.idxOf (gI (classes T) (T.at (mems T)[k.toNat] e).1) ((mems T).map (gI (classes T))) < (mems T).length := by simpa using hi
      rw [List.getD_eq_getElem?_getD, List.getElem?_eq_getElem hi']
      have := List.getElem_idxOf hi
      rw [List.getElem_map] at this
      exact this.symm
  · rw [if_neg hn]
    exact ⟨g2, fun hs0 => by have := g4.1; omega⟩
theorem least_valid {T : Tb} (hT : VT T) : VT (leastT T) := by
  have hM := mems_ok hT
  obtain ⟨t, ht⟩ := hM.hd
  have hlen : 1 ≤ (mems T).length := by rw [ht]; simp
  have hst := hT.st
  have hl := hM.len
  have st' : (leastT T).st = ((mems T).length : Int) := rfl
  have hrw : ∀ l ∈ (leastT T).rows, ∃ s ∈ mems T, l = (T.rows.getD s.toNat []).map (leastR (classes T) ((mems T).map (gI (classes T)))) := fun l hl => by
    obtain ⟨s, hs, rfl⟩ := List.mem_map.mp hl
    exact ⟨s, hs, rfl⟩
  refine ⟨by rw [st']; omega, hT.ev, ⟨Int.le_refl _, by rw [st']; show (0 : Int) < _; omega⟩, by rw [st']; show (((leastRows T).length : Nat) : Int) = _; simp [leastRows], fun l hl => ?_, fun l hl r hr => ?_⟩
  · obtain ⟨s, hs, rfl⟩ := hrw l hl
    rw [List.length_map]
    exact (row_at hT (hM.rng s hs)).2.2
  · obtain ⟨s, hs, rfl⟩ := hrw l hl
    obtain ⟨q, hq, rfl⟩ := List.mem_map.mp hr
    have hsr := hM.rng s hs
    obtain ⟨e, g0, g1, rfl⟩ := (row_at hT hsr).1 q hq
    have r1 := hT.atOk hsr.1 hsr.2 g0 g1
    unfold leastR
    split
    · rename_i hn
      have hor := (order_ok hT).clo _ (hM.sub _ hs) e g0 g1 hn
      have hc := hM.cov _ hor
      rw [if_pos hc]
      have hi := idx_lt _ _ hc
      simp at hi
      rw [st']
      dsimp only
      omega
    · rw [st']; omega
theorem rel_start {T : Tb} (hT : VT T) : RelL T 0 T.sr := by
  have hM := mems_ok hT
  obtain ⟨t, ht⟩ := hM.hd
  refine ⟨Int.le_refl _, by rw [ht]; simp, hT.sr.1, hT.sr.2, by rw [ht]; rfl⟩
/-- The least table tells the same. -/
theorem least_alike {T : Tb} (hT : VT T) : ∀ {s k : Int}, Ap T (leastT T) s k → RelL T k s → False := by
  intro s k h
  induction h with
  | here h0 h1 hd => intro hr; have := (rel_step hT hr h0 h1).1; rw [hd] at this; cases this
  | next h0 h1 h2 h3 _ ih => intro hr; exact ih ((rel_step hT hr h0 h1).2 h2)
theorem least_run {T : Tb} (hT : VT T) : ∀ (w : List Int) (s k : Int), (∀ e ∈ w, 0 ≤ e ∧ e < T.ev) → RelL T k s → (T.run s w).1 = ((leastT T).run k w).1
  | [], s, k, _, _ => rfl
  | e :: w, s, k, hw, hr => by
    obtain ⟨g0, g1⟩ := hw e (by simp)
    obtain ⟨h1, h2⟩ := rel_step hT hr g0 g1
    have h3 := diffR_false.mp h1
    unfold Tb.run
    by_cases hn : (T.at s e).1 < 0
    · rw [if_pos hn, if_pos (h3.1.mp hn)]
    · rw [if_neg hn, if_neg (fun h => hn (h3.1.mpr h))]
      dsimp only
      rw [h3.2, least_run hT w _ _ (fun x hx => hw x (by simp [hx])) (h2 (by omega))]
/-- No two states of the least table tell the same. -/
theorem least_apart {T : Tb} (hT : VT T) : ∀ {s t : Int}, Ap T T s t → ∀ k l, RelL T k s → RelL T l t → Ap (leastT T) (leastT T) k l := by
  intro s t h
  induction h with
  | @here a b e h0 h1 hd =>
    intro k l hk hl
    have e1 := diffR_false.mp (rel_step hT hk h0 h1).1
    have e2 := diffR_false.mp (rel_step hT hl h0 h1).1
    refine Ap.here h0 h1 ?_
    cases hc : diffR ((leastT T).at k e) ((leastT T).at l e) with
    | true => rfl
    | false =>
      have e3 := diffR_false.mp hc
      have : diffR (T.at a e) (T.at b e) = false := diffR_false.mpr ⟨e1.1.trans (e3.1.trans e2.1.symm), e1.2.trans (e3.2.trans e2.2.symm)⟩
      rw [hd] at this; cases this
  | next h0 h1 h2 h3 _ ih =>
    intro k l hk hl
    have s1 := rel_step hT hk h0 h1
    have s2 := rel_step hT hl h0 h1
    have e1 := diffR_false.mp s1.1
    have e2 := diffR_false.mp s2.1
    exact Ap.next h0 h1 (by have := e1.1; omega) (by have := e2.1; omega) (ih _ _ (s1.2 h2) (s2.2 h3))
theorem least_pairs {T : Tb} (hT : VT T) {x y : Int} (hx : 0 ≤ x ∧ x < (leastT T).st) (hy : 0 ≤ y ∧ y < (leastT T).st) (hne : x ≠ y) : Ap (leastT T) (leastT T) x y := by
  have hM := mems_ok hT
  have st' : (leastT T).st = ((mems T).length : Int) := rfl
  rw [st'] at hx hy
  obtain ⟨h1, e1⟩ := mem_get hx.1 hx.2
  obtain ⟨h2, e2⟩ := mem_get hy.1 hy.2
  have r1 := hM.rng _ (List.getElem_mem h1)
  have r2 := hM.rng _ (List.getElem_mem h2)
  refine least_apart hT ((classes_bis hT).sep (mems T)[x.toNat] (mems T)[y.toNat] r1 r2 fun hc => hne ?_) x y ⟨hx.1, hx.2, r1.1, r1.2, by rw [e1]⟩ ⟨hy.1, hy.2, r2.1, r2.2, by rw [e2]⟩
  have hnd := hM.nd
  have h3 : ((mems T).map (gI (classes T)))[x.toNat]'(by simpa using h1) = ((mems T).map (gI (classes T)))[y.toNat]'(by simpa using h2) := by simpa using hc
  have := (List.getElem_inj hnd).mp h3
  omega
end Go.Proofs.Ytkfkkglodjehpaa
