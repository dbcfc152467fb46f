import Derived.Test.YtnggimkkjdipmaaTU7
import Derived.Test.YtnggimkkjdipmaaTC1
import Derived.Test.YtnggimkkjdipmaaTU8
namespace Go.Proofs.Ytnggimkkjdipmaa
open Go.RowKit
set_option linter.unusedVariables false
set_option linter.unusedSimpArgs false
set_option maxHeartbeats 16000000
set_option maxRecDepth 100000
/-! ### The suite finds each table of at most as many states that differs: plain -/
theorem run_app (T : Tb) : ∀ (v w : List Int) (s : Int), (T.run s v).1.length = v.length → T.run s (v ++ w) = ((T.run s v).1 ++ (T.run (T.run s v).2 w).1, (T.run (T.run s v).2 w).2)
  | [], w, s, _ => by simp [Tb.run]
  | e :: v, w, s, h => by
    by_cases hn : (T.at s e).1 < 0
    · simp [Tb.run, hn] at h
    · have h' : (T.run (T.at s e).1 v).1.length = v.length := by simpa [Tb.run, hn] using h
      have ih := run_app T v w (T.at s e).1 h'
      simp only [List.cons_append, Tb.run, hn, if_false, ih]
theorem run_pre (T : Tb) : ∀ (x y : List Int) (s : Int), isPre x y = true → (T.run s x).1 = (T.run s y).1.take x.length
  | [], y, s, _ => by simp [Tb.run]
  | a :: x, [], s, h => by simp [isPre] at h
  | a :: x, b :: y, s, h => by
    simp only [isPre, List.length_cons, List.take_succ_cons, List.cons.injEq, Bool.and_eq_true, decide_eq_true_eq] at h
    obtain ⟨h1, rfl, h2⟩ := h
    by_cases hn : (T.at s b).1 < 0
    · simp [Tb.run, hn]
    · have ih := run_pre T x y (T.at s b).1 (by simp only [isPre, Bool.and_eq_true, decide_eq_true_eq]; exact ⟨by omega, h2⟩)
      simp only [Tb.run, hn, if_false, List.length_cons, List.take_succ_cons, ih]
/-- Each word of an ascending list is one that is left in it, or a beginning of one. -/
theorem whole_covers (l : List (List Int)) : ∀ (n : Nat) (x : List Int), x ∈ l → (∀ y ∈ l, y.length ≤ x.length + n) → ∃ y ∈ wholeL l, x = y ∨ isPre x y = true
  | 0, x, hx, hb => by
    refine ⟨x, (wholeL_mem l x).mpr ⟨hx, fun y hy => ?_⟩, .inl rfl⟩
    cases hp : isPre x y with
    | false => rfl
    | true =>
      simp only [isPre, Bool.and_eq_true, decide_eq_true_eq] at hp
      have := hb y hy
      omega
  | n + 1, x, hx, hb => by
    by_cases h : ∀ y ∈ l, isPre x y = false
    · exact ⟨x, (wholeL_mem l x).mpr ⟨hx, h⟩, .inl rfl⟩
    · obtain ⟨y, hy⟩ := Classical.not_forall.mp h
      obtain ⟨hy, hp⟩ := Classical.not_imp.mp hy
      have hp : isPre x y = true := by
        cases hq : isPre x y with
        | true => rfl
        | false => exact absurd hq hp
      have hp' := hp
      simp only [isPre, Bool.and_eq_true, decide_eq_true_eq] at hp'
      obtain ⟨z, hz, hyz⟩ := whole_covers l n y hy (fun u hu => by have := hb u hu; omega)
      refine ⟨z, hz, .inr ?_⟩
      rcases hyz with rfl | hq
      · exact hp
      · simp only [isPre, Bool.and_eq_true, decide_eq_true_eq] at hq ⊢
        refine ⟨by omega, ?_⟩
        rw [← hp'.2]
        conv => rhs; rw [← hq.2, List.take_take, Nat.min_eq_left (by omega)]
        rw [hp'.2]
/-- All that can be reached is named. -/
def Full (T : Tb) : Prop := ∀ s ∈ orderT T, ∀ e : Int, 0 ≤ e → e < T.ev → 0 ≤ (T.at s e).1
theorem missRow_nil : ∀ (rs : List (Int × Int)) (s : Int) (e : Nat), missRow s e rs = [] → ∀ r ∈ rs, 0 ≤ r.1
  | [], s, e, _, r, hr => by simp at hr
  | x :: rs, s, e, h, r, hr => by
    unfold missRow at h
    by_cases hx : x.1 < 0
    · rw [if_pos hx] at h; cases h
    · rw [if_neg hx] at h
      rcases List.mem_cons.mp hr with rfl | hr
      · omega
      · exact missRow_nil rs s (e + 1) h r hr
theorem full_of {T : Tb} (hT : VT T) (h : missL T = []) : Full T := by
  intro s hs e h0 h1
  unfold missL at h
  rw [List.flatMap_eq_nil_iff] at h
  have := h s ((reachL_mem hT s).mpr hs)
  exact missRow_nil _ _ _ this _ ((row_at hT ((order_ok hT).rng s hs)).2.1 e h0 h1)
theorem Full.run {T : Tb} (hT : VT T) (h : Full T) : ∀ (w : List Int) (s : Int), s ∈ orderT T → (∀ e ∈ w, 0 ≤ e ∧ e < T.ev) → (T.run s w).1.length = w.length ∧ (T.run s w).2 ∈ orderT T
  | [], s, hs, _ => by simp [Tb.run, hs]
  | e :: w, s, hs, hw => by
    obtain ⟨h0, h1⟩ := hw e (by simp)
    have hn := h s hs e h0 h1
    have hc := (order_ok hT).clo s hs e h0 h1 hn
    obtain ⟨g1, g2⟩ := Full.run hT h w _ hc (fun x hx => hw x (by simp [hx]))
    have hn' : ¬ (T.at s e).1 < 0 := by omega
    simp only [Tb.run, hn', if_false, List.length_cons, g1]
    exact ⟨trivial, g2⟩
theorem Full.least {T : Tb} (hT : VT T) (h : Full T) : Full (leastT T) := by
  intro k hk e h0 h1
  have hM := mems_ok hT
  rw [least_order hT] at hk
  unfold iota at hk
  obtain ⟨j, hj, rfl⟩ := List.mem_map.mp hk
  have hj := List.mem_range.mp hj
  have hm := hM.rng _ (List.getElem_mem hj)
  have hR : RelL T (j : Int) (mems T)[j] := ⟨by omega, by omega, hm.1, hm.2, by rw [Int.toNat_natCast, List.getD_eq_getElem?_getD, List.getElem?_eq_getElem hj]; rfl⟩
  have hs := (rel_step hT hR h0 h1).1
  have := h _ (hM.sub _ (List.getElem_mem hj)) e h0 h1
  have := (diffR_false.mp hs).1
  omega
/-- The words of a walk lead where they say. -/
def WdOk (T : Tb) (L : List (Int × List Int)) : Prop := ∀ x ∈ L, (∀ e ∈ x.2, 0 ≤ e ∧ e < T.ev) ∧ (T.run T.sr x.2).1.length = x.2.length ∧ (T.run T.sr x.2).2 = x.1
theorem wRow_wd {T : Tb} (hT : VT T) {s : Int} (hs : 0 ≤ s ∧ s < T.st) {word : List Int} (hw : (∀ e ∈ word, 0 ≤ e ∧ e < T.ev) ∧ (T.run T.sr word).1.length = word.length ∧ (T.run T.sr word).2 = s) : ∀ (rs : List (Int × Int)) (e : Nat) (L : List (Int × List Int)),
    (T.rows.getD s.toNat []).drop e = rs → WdOk T L → WdOk T (wRow word e rs L)
  | [], e, L, _, h => h
  | r :: rs, e, L, hd, h => by
    have hl := (row_at hT hs).2.2
    have he : e < (T.rows.getD s.toNat []).length := by
      rcases Nat.lt_or_ge e (T.rows.getD s.toNat []).length with h1 | h1
      · exact h1
      · rw [List.drop_eq_nil_of_le h1] at hd; cases hd
    rw [List.drop_eq_getElem_cons he] at hd
    obtain ⟨hr, hd'⟩ := List.cons.inj hd
    have hat : T.at s e = r := by
      unfold Tb.at
      rw [Int.toNat_natCast, List.getD_eq_getElem?_getD (i := e), List.getElem?_eq_getElem he, ← hr]; rfl
    rw [wRow_cons]
    refine wRow_wd hT hs hw rs (e + 1) _ hd' ?_
    unfold wStep
    split
    · rename_i hc
      intro x hx
      rcases List.mem_append.mp hx with hx | hx
      · exact h x hx
      · simp at hx
        subst hx
        obtain ⟨h1, h2, h3⟩ := hw
        have hra := run_app T word [(e : Int)] T.sr h2
        rw [h3] at hra
        have hn : ¬ (T.at s e).1 < 0 := by rw [hat]; have := hc.1; omega
        refine ⟨fun y hy => ?_, ?_, ?_⟩
        · rcases List.mem_append.mp hy with hy | hy
          · exact h1 y hy
          · simp at hy; subst hy; exact ⟨by omega, by omega⟩
        · rw [hra]; simp [Tb.run, hn, h2]
        · have hn2 : ¬ r.1 < 0 := by have := hc.1; omega
          rw [hra]; simp [Tb.run, hat, hn2]
    · exact h
theorem walkF_wd {T : Tb} (hT : VT T) : ∀ (f i : Nat) (L : List (Int × List Int)), WOk T L → f + i = 40 → WdOk T L → WdOk T (walkF T f i L)
  | 0, i, L, _, _, h => h
  | f + 1, i, L, hO, hf, h => by
    unfold walkF
    by_cases hlt : i < L.length
    · rw [if_pos hlt]
      have e0 : L.getD i (0, []) = L[i] := by rw [List.getD_eq_getElem?_getD, List.getElem?_eq_getElem hlt]; rfl
      have hrg := hO.rng _ (List.getElem_mem hlt)
      unfold wRound
      rw [e0]
      have hO' := (wRow_ok (T := T) (fun _ => trivial) L[i].2 (T.rows.getD L[i].1.toNat []) 0 L (fun r hr => by
        obtain ⟨e, g0, g1, rfl⟩ := (row_at hT hrg).1 r hr
        exact (hT.atOk hrg.1 hrg.2 g0 g1).2.1) hO (by have := hO.len i hlt; omega)).1
      exact walkF_wd hT f (i + 1) _ hO' (by omega) (wRow_wd hT hrg (h _ (List.getElem_mem hlt)) _ 0 L (by simp) h)
    · rw [if_neg hlt]; exact h
theorem walk_wd {T : Tb} (hT : VT T) : WdOk T (walkT T) := walkF_wd hT 40 0 _ (WOk.start hT) rfl (fun x hx => by simp at hx; subst hx; simp [Tb.run])
/-- Tables that are not told apart tell the same. -/
theorem alike_run {T U : Tb} : ∀ (w : List Int) (a b : Int), (∀ e ∈ w, 0 ≤ e ∧ e < T.ev) → ¬ Ap T U a b → (T.run a w).1 = (U.run b w).1
  | [], a, b, _, _ => rfl
  | e :: w, a, b, hw, h => by
    obtain ⟨h0, h1⟩ := hw e (by simp)
    have hd : diffR (T.at a e) (U.at b e) = false := by
      cases hd : diffR (T.at a e) (U.at b e) with
      | false => rfl
      | true => exact absurd (Ap.here h0 h1 hd) h
    obtain ⟨g1, g2⟩ := diffR_false.mp hd
    by_cases hn : (T.at a e).1 < 0
    · simp [Tb.run, hn, g1.mp hn]
    · have hn2 : ¬ (U.at b e).1 < 0 := fun hc => hn (g1.mpr hc)
      have ih := alike_run w (T.at a e).1 (U.at b e).1 (fun x hx => hw x (by simp [hx])) (fun hc => h (Ap.next h0 h1 (by omega) (by omega) hc))
      simp only [Tb.run, hn, hn2, if_false, ih, g2]
theorem ap_irr {M : Tb} : ∀ {x y : Int}, Ap M M x y → x ≠ y := by
  intro x y h
  induction h with
  | here h0 h1 hd => rintro rfl; simp [diffR] at hd
  | next h0 h1 h2 h3 _ ih => rintro rfl; exact ih rfl
/-- All the words of a suite, ahead of the cut. -/
def suiteAll (M : Tb) (tl : List (List Int)) : List (List Int) := (coverL M).flatMap (sWords M.ev.toNat tl)
theorem suiteAll_mem {M : Tb} {tl : List (List Int)} {c h t : List Int} (hc : c ∈ coverL M) (hh : h = c ∨ ∃ e : Nat, (e : Int) < M.ev ∧ h = c ++ [(e : Int)]) (ht : t = [] ∨ t ∈ tl) : h ++ t ∈ suiteAll M tl := by
  unfold suiteAll
  rw [List.mem_flatMap]
  refine ⟨c, hc, ?_⟩
  rw [sWords_eq]
  unfold sHead
  rw [List.mem_flatMap]
  refine ⟨h, ?_, List.mem_map.mpr ⟨t, ?_, rfl⟩⟩
  · unfold headsL
    rcases hh with rfl | ⟨e, he, rfl⟩
    · simp
    · exact List.mem_cons_of_mem _ (List.mem_map.mpr ⟨e, List.mem_range.mpr (by omega), rfl⟩)
  · rcases ht with rfl | ht
    · simp
    · simp [ht]
theorem le_sum_mem : ∀ (l : List Nat) (a : Nat), a ∈ l → a ≤ l.sum
  | x :: l, a, h => by
    rw [List.sum_cons]
    rcases List.mem_cons.mp h with rfl | h
    · omega
    · have := le_sum_mem l a h; omega
theorem suiteAll_pass {M U : Tb} {tl : List (List Int)} (hp : ∀ x ∈ suiteL M tl, (M.run M.sr x).1 = (U.run U.sr x).1) : ∀ x ∈ suiteAll M tl, (M.run M.sr x).1 = (U.run U.sr x).1 := by
  intro x hx
  have hx' : x ∈ onceF (suiteAll M tl) := (onceF_mem _ _).mpr hx
  have hb : ∃ n, ∀ y ∈ onceF (suiteAll M tl), y.length ≤ n := by
    refine ⟨((onceF (suiteAll M tl)).map List.length).sum, fun y hy => ?_⟩
    exact le_sum_mem _ _ (List.mem_map.mpr ⟨y, hy, rfl⟩)
  obtain ⟨n, hb⟩ := hb
  obtain ⟨y, hy, hxy⟩ := whole_covers _ n x hx' (fun u hu => by have := hb u hu; omega)
  have h := hp y hy
  rcases hxy with rfl | hq
  · exact h
  · rw [run_pre M x y _ hq, run_pre U x y _ hq, h]
structure Wm (M U : Tb) : Prop where
  vm : VT M
  vu : VT U
  ev : M.ev = U.ev
  fm : Full M
  fu : Full U
  ord : orderT M = iota M.st.toNat
  sep : ∀ x y : Int, 0 ≤ x ∧ x < M.st → 0 ≤ y ∧ y < M.st → x ≠ y → Ap M M x y
  le : U.st ≤ M.st
theorem Wm.cov {M U : Tb} (h : Wm M U) (s : Nat) (hs : (s : Int) < M.st) : ∃ c ∈ coverL M, (∀ e ∈ c, 0 ≤ e ∧ e < M.ev) ∧ (M.run M.sr c).1.length = c.length ∧ (M.run M.sr c).2 = (s : Int) ∧ c = lookW (walkT M) s := by
  have hm : (s : Int) ∈ keyW (walkT M) := by
    show (s : Int) ∈ orderT M
    rw [h.ord]
    exact (iota_mem _ _).mpr (by omega)
  obtain ⟨p, hp, h1, h2⟩ := lookW_get _ _ hm
  obtain ⟨g1, g2, g3⟩ := walk_wd h.vm p hp
  refine ⟨lookW (walkT M) s, ?_, ?_⟩
  · unfold coverL
    exact List.mem_map.mpr ⟨s, List.mem_range.mpr (by omega), rfl⟩
  · rw [← h2]
    exact ⟨g1, g2, by rw [g3, h1], rfl⟩
/-- Where U is behind the word of a state. -/
def qS (M U : Tb) (s : Nat) : Int := (U.run U.sr (lookW (walkT M) s)).2
theorem Wm.tell {M U : Tb} (h : Wm M U) {x y : Int} (hx : 0 ≤ x ∧ x < M.st) (hy : 0 ≤ y ∧ y < M.st) (hne : x ≠ y) : ∃ t ∈ tellsOf M, (∀ e ∈ t, 0 ≤ e ∧ e < M.ev) ∧ (M.run x t).1 ≠ (M.run y t).1 := by
  have key : ∀ a b : Nat, (a : Int) < M.st → (b : Int) < M.st → a < b → ∃ t ∈ tellsOf M, (∀ e ∈ t, 0 ≤ e ∧ e < M.ev) ∧ (M.run a t).1 ≠ (M.run b t).1 := by
    intro a b ha hb hab
    have hap := h.sep a b ⟨by omega, ha⟩ ⟨by omega, hb⟩ (by omega)
    have hs := (differT_law h.vm h.vm rfl (a := (a : Int)) (b := (b : Int)) ⟨by omega, ha⟩ ⟨by omega, hb⟩).mpr hap
    obtain ⟨w, hw⟩ := Option.isSome_iff_exists.mp hs
    have hd := (differT_words h.vm h.vm rfl (a := (a : Int)) (b := (b : Int)) ⟨by omega, ha⟩ ⟨by omega, hb⟩ w hw).1
    obtain ⟨_, g2, _, _, g5⟩ := dist_run h.vm h.vm rfl w a b ⟨by omega, ha⟩ ⟨by omega, hb⟩ hd
    refine ⟨w, ?_, g2, g5⟩
    unfold tellsOf
    rw [onceF_mem]
    unfold tellAll
    rw [List.mem_flatMap]
    refine ⟨a, List.mem_range.mpr (by omega), ?_⟩
    unfold tellRow
    rw [List.mem_filterMap]
    exact ⟨b, List.mem_range'.mpr ⟨b - (a + 1), by omega, by omega⟩, hw⟩
  rcases Int.lt_or_gt_of_ne hne with hlt | hgt
  · have := key x.toNat y.toNat (by omega) (by omega) (by omega)
    rw [Int.toNat_of_nonneg hx.1, Int.toNat_of_nonneg hy.1] at this
    exact this
  · obtain ⟨t, h1, h2, h3⟩ := key y.toNat x.toNat (by omega) (by omega) (by omega)
    rw [Int.toNat_of_nonneg hx.1, Int.toNat_of_nonneg hy.1] at h3
    exact ⟨t, h1, h2, fun e => h3 e.symm⟩
theorem Wm.main {M U : Tb} (h : Wm M U) (hp : ∀ x ∈ suiteL M (tellsOf M), (M.run M.sr x).1 = (U.run U.sr x).1) : ¬ Ap M U M.sr U.sr := by
  have hall := suiteAll_pass hp
  have hst := h.vm.st
  have hOU := order_ok h.vu
  have hus : U.sr ∈ orderT U := by obtain ⟨t, ht⟩ := hOU.hd; rw [ht]; simp
  have hin : ∀ s : Nat, (s : Int) < M.st → (s : Int) ∈ orderT M := fun s hs => by rw [h.ord]; exact (iota_mem _ _).mpr (by omega)
  have hqo : ∀ s : Nat, (s : Int) < M.st → (U.run U.sr (lookW (walkT M) s)).1.length = (lookW (walkT M) s).length ∧ qS M U s ∈ orderT U := fun s hs => by
    obtain ⟨c, _, h1, _, _, rfl⟩ := h.cov s hs
    exact h.fu.run h.vu _ _ hus (fun e he => by have := h1 e he; rw [← h.ev]; exact this)
  have P0 : ∀ s : Nat, (s : Int) < M.st → ∀ w, lookW (walkT M) s ++ w ∈ suiteAll M (tellsOf M) → (M.run s w).1 = (U.run (qS M U s) w).1 := fun s hs w hw => by
    obtain ⟨c, _, h1, h2, h3, rfl⟩ := h.cov s hs
    have e := hall _ hw
    rw [run_app M _ w _ h2, run_app U _ w _ (hqo s hs).1, h3] at e
    exact (List.append_inj e (by rw [h2, (hqo s hs).1])).2
  have P1 : ∀ s : Nat, (s : Int) < M.st → ∀ t ∈ tellsOf M, (M.run s t).1 = (U.run (qS M U s) t).1 := fun s hs t ht => by
    obtain ⟨c, hc, _, _, _, rfl⟩ := h.cov s hs
    exact P0 s hs t (suiteAll_mem hc (.inl rfl) (.inr ht))
  have P2 : ∀ s : Nat, (s : Int) < M.st → ∀ e : Nat, (e : Int) < M.ev → (M.at s e).2 = (U.at (qS M U s) e).2 ∧ ∀ t ∈ tellsOf M, (M.run (M.at s e).1 t).1 = (U.run (U.at (qS M U s) e).1 t).1 := fun s hs e he => by
    have n1 : ¬ (M.at s e).1 < 0 := by have := h.fm s (hin s hs) e (by omega) he; omega
    have n2 : ¬ (U.at (qS M U s) e).1 < 0 := by have := h.fu _ (hqo s hs).2 e (by omega) (by rw [← h.ev]; exact he); omega
    have key : ∀ t, (t = [] ∨ t ∈ tellsOf M) → (M.at s e).2 :: (M.run (M.at s e).1 t).1 = (U.at (qS M U s) e).2 :: (U.run (U.at (qS M U s) e).1 t).1 := fun t ht => by
      obtain ⟨c, hc, _, _, _, hce⟩ := h.cov s hs
      have := P0 s hs ((e : Int) :: t) (by
        have := suiteAll_mem hc (.inr ⟨e, he, rfl⟩) ht
        rw [hce, List.append_assoc] at this
        exact this)
      simpa only [Tb.run, n1, n2, if_false] using this
    refine ⟨(List.cons.inj (key [] (.inl rfl))).1, fun t ht => (List.cons.inj (key t (.inr ht))).2⟩
  have P3 : ∀ s s' : Nat, (s : Int) < M.st → (s' : Int) < M.st → qS M U s = qS M U s' → s = s' := fun s s' hs hs' he => Classical.byContradiction fun hne => by
    obtain ⟨t, ht, _, hd⟩ := h.tell (x := (s : Int)) (y := (s' : Int)) ⟨by omega, hs⟩ ⟨by omega, hs'⟩ (by omega)
    rw [P1 s hs t ht, P1 s' hs' t ht, he] at hd
    exact hd rfl
  have P4 : ∀ x : Int, 0 ≤ x → x < U.st → ∃ s : Nat, (s : Int) < M.st ∧ qS M U s = x := fun x h0 h1 => Classical.byContradiction fun hne => by
    have hnd : ((List.range M.st.toNat).map (qS M U)).Nodup := by
      rw [List.Nodup, List.pairwise_map]
      refine List.nodup_range.imp_of_mem fun {a b} ha hb hab e => hab (P3 a b ?_ ?_ e)
      · have := List.mem_range.mp ha; omega
      · have := List.mem_range.mp hb; omega
    have hx : x ∉ (List.range M.st.toNat).map (qS M U) := fun hm => by
      obtain ⟨s, hs, e⟩ := List.mem_map.mp hm
      exact hne ⟨s, by have := List.mem_range.mp hs; omega, e⟩
    have := pigeon (x :: (List.range M.st.toNat).map (qS M U)) ((List.range U.st.toNat).map fun k : Nat => (k : Int)) (List.nodup_cons.mpr ⟨hx, hnd⟩) (fun y hy => by
      have hr : 0 ≤ y ∧ y < U.st := by
        rcases List.mem_cons.mp hy with rfl | hy
        · exact ⟨h0, h1⟩
        · obtain ⟨s, hs, rfl⟩ := List.mem_map.mp hy
          exact hOU.rng _ (hqo s (by have := List.mem_range.mp hs; omega)).2
      exact List.mem_map.mpr ⟨y.toNat, List.mem_range.mpr (by omega), by omega⟩)
    simp only [List.length_cons, List.length_map, List.length_range] at this
    have := h.le
    omega
  have P5 : ∀ s : Nat, (s : Int) < M.st → ∀ e : Nat, (e : Int) < M.ev → (U.at (qS M U s) e).1 = qS M U (M.at s e).1.toNat := fun s hs e he => by
    have n1 := h.fm s (hin s hs) e (by omega) he
    have r1 := h.vm.atOk (s := (s : Int)) (e := (e : Int)) (by omega) hs (by omega) he
    have hq := (hqo s hs).2
    have hqr := hOU.rng _ hq
    have n2 := h.fu _ hq e (by omega) (by rw [← h.ev]; exact he)
    have r2 := h.vu.atOk (s := qS M U s) (e := (e : Int)) hqr.1 hqr.2 (by omega) (by rw [← h.ev]; exact he)
    obtain ⟨s', hs', hx⟩ := P4 _ n2 r2.2.1
    rw [← hx]
    congr 1
    refine Classical.byContradiction fun hne => ?_
    obtain ⟨t, ht, _, hd⟩ := h.tell (x := (s' : Int)) (y := (M.at s e).1) ⟨by omega, hs'⟩ ⟨n1, r1.2.1⟩ (by omega)
    rw [P1 s' hs' t ht, hx, (P2 s hs e he).2 t ht] at hd
    exact hd rfl
  have P6 : ∀ a b : Int, Ap M U a b → 0 ≤ a ∧ a < M.st → b = qS M U a.toNat → False := by
    intro a b hab
    induction hab with
    | @here a b e h0 h1 hd =>
      rintro ha rfl
      have n1 := h.fm a (by have := hin a.toNat (by omega); rw [Int.toNat_of_nonneg ha.1] at this; exact this) e h0 h1
      have hq := (hqo a.toNat (by omega)).2
      have n2 := h.fu _ hq e h0 (by rw [← h.ev]; exact h1)
      have p2 := (P2 a.toNat (by omega) e.toNat (by omega)).1
      rw [Int.toNat_of_nonneg ha.1, Int.toNat_of_nonneg h0] at p2
      rw [diffR_false.mpr ⟨⟨fun h => by omega, fun h => by omega⟩, p2⟩] at hd
      cases hd
    | @next a b e h0 h1 h2 h3 _ ih =>
      rintro ha rfl
      have r1 := h.vm.atOk (s := a) (e := e) ha.1 ha.2 h0 h1
      have p5 := P5 a.toNat (by omega) e.toNat (by omega)
      rw [Int.toNat_of_nonneg ha.1, Int.toNat_of_nonneg h0] at p5
      exact ih ⟨h2, r1.2.1⟩ p5
  intro hap
  refine P6 _ _ hap h.vm.sr ?_
  obtain ⟨_, ⟨t, ht⟩, _⟩ := walkF_law h.vm 40 0 _ rfl (WOk.start h.vm) ⟨[], rfl⟩ (fun k hk hki => by omega)
  have e0 : lookW (walkT M) (M.sr.toNat : Int) = [] := by
    rw [Int.toNat_of_nonneg h.vm.sr.1]
    show lookW (walkF M 40 0 [(M.sr, [])]) M.sr = []
    rw [ht]; simp [lookW]
  unfold qS
  rw [e0]; rfl
end Go.Proofs.Ytnggimkkjdipmaa
namespace Go.Proofs.Ytnggimkkjdipmaa
open Go.RowKit
set_option linter.unusedVariables false
set_option linter.unusedSimpArgs false
set_option maxHeartbeats 16000000
set_option maxRecDepth 100000
theorem ap_least {T U : Tb} (hT : VT T) : ∀ {s u : Int}, Ap T U s u → ∀ k, RelL T k s → Ap (leastT T) U k u := by
  intro s u h
  induction h with
  | @here a b e h0 h1 hd =>
    intro k hk
    have e1 := diffR_false.mp (rel_step hT hk h0 h1).1
    refine Ap.here h0 h1 ?_
    cases hc : diffR ((leastT T).at k e) (U.at b e) with
    | true => rfl
    | false =>
      have e3 := diffR_false.mp hc
      have : diffR (T.at a e) (U.at b e) = false := diffR_false.mpr ⟨e1.1.trans e3.1, e1.2.trans e3.2⟩
      rw [hd] at this; cases this
  | next h0 h1 h2 h3 _ ih =>
    intro k hk
    have s1 := rel_step hT hk h0 h1
    have e1 := diffR_false.mp s1.1
    exact Ap.next h0 h1 (by have := e1.1; omega) h3 (ih _ (s1.2 h2))
theorem suite_words {M : Tb} (hM : VT M) {x : List Int} (hx : x ∈ suiteL M (tellsOf M)) : (∀ e ∈ x, 0 ≤ e ∧ e < M.ev) ∧ x.length ≤ 200 := by
  have h1 : x ∈ suiteAll M (tellsOf M) := (onceF_mem _ _).mp ((wholeL_mem _ _).mp hx).1
  unfold suiteAll at h1
  obtain ⟨c, hc, h2⟩ := List.mem_flatMap.mp h1
  rw [sWords_eq] at h2
  unfold sHead at h2
  obtain ⟨h, hh, h3⟩ := List.mem_flatMap.mp h2
  obtain ⟨t, ht, rfl⟩ := List.mem_map.mp h3
  have hst := hM.st
  have hcw : (∀ e ∈ c, 0 ≤ e ∧ e < M.ev) ∧ c.length ≤ 30 := by
    unfold coverL at hc
    obtain ⟨s, hs, rfl⟩ := List.mem_map.mp hc
    by_cases hm : (s : Int) ∈ keyW (walkT M)
    · obtain ⟨p, hp, _, e⟩ := lookW_get _ _ hm
      rw [← e]
      obtain ⟨g1, _, _⟩ := walk_wd hM p hp
      refine ⟨g1, ?_⟩
      obtain ⟨hok, _, _⟩ := walkF_law hM 40 0 _ rfl (WOk.start hM) ⟨[], rfl⟩ (fun k hk hki => by omega)
      obtain ⟨k, hk, rfl⟩ := List.getElem_of_mem hp
      have h1 : (walkT M)[k].2.length ≤ k := hok.len k hk
      have h2 := hok.le
      have h3 : k < (walkF M 40 0 [(M.sr, [])]).length := hk
      omega
    · rw [lookW_none _ _ hm]; simp
  have hhw : (∀ e ∈ h, 0 ≤ e ∧ e < M.ev) ∧ h.length ≤ 31 := by
    unfold headsL at hh
    rcases List.mem_cons.mp hh with rfl | hh
    · exact ⟨hcw.1, by have := hcw.2; omega⟩
    · obtain ⟨e, he, rfl⟩ := List.mem_map.mp hh
      have he := List.mem_range.mp he
      refine ⟨fun y hy => ?_, by have := hcw.2; simp; omega⟩
      rcases List.mem_append.mp hy with hy | hy
      · exact hcw.1 y hy
      · simp at hy; subst hy; exact ⟨by omega, by omega⟩
  have htw : (∀ e ∈ t, 0 ≤ e ∧ e < M.ev) ∧ t.length ≤ 60 := by
    rcases List.mem_cons.mp ht with rfl | ht
    · simp
    · refine ⟨?_, (tellAll_len hM).2 t ht⟩
      unfold tellsOf at ht
      rw [onceF_mem] at ht
      unfold tellAll at ht
      obtain ⟨a, ha, ht⟩ := List.mem_flatMap.mp ht
      unfold tellRow at ht
      obtain ⟨b, hb, hd⟩ := List.mem_filterMap.mp ht
      have ha' := List.mem_range.mp ha
      obtain ⟨i, hi, rfl⟩ := List.mem_range'.mp hb
      have h1 := (differT_words hM hM rfl (by omega) (by omega) t hd).1
      exact (dist_run hM hM rfl t _ _ ⟨by omega, by omega⟩ ⟨by omega, by omega⟩ h1).2.1
  refine ⟨fun e he => ?_, by have := hhw.2; have := htw.2; simp; omega⟩
  rcases List.mem_append.mp he with he | he
  · exact hhw.1 e he
  · exact htw.1 e he
theorem wm_of {T U : Tb} (hT : VT T) (hU : VT U) (hfT : Full T) (hfU : Full U) (hev : T.ev = U.ev) (hle : U.st ≤ (leastT T).st) : Wm (leastT T) U := by
  have hst : (leastT T).st = ((mems T).length : Int) := rfl
  exact ⟨least_valid hT, hU, hev, hfT.least hT, hfU, by rw [least_order hT, hst, Int.toNat_natCast], fun x y hx hy hne => least_pairs hT hx hy hne, hle⟩
/-- The suite finds what differs. -/
theorem suite_finds_full {T U : Tb} (hT : VT T) (hU : VT U) (hfT : Full T) (hfU : Full U) (hev : T.ev = U.ev) (hle : U.st ≤ (leastT T).st) : passF T U (suiteL (leastT T) (tellsOf (leastT T))) = alikeF T U := by
  have hW := wm_of hT hU hfT hfU hev hle
  have hL := least_valid hT
  have hsr : (leastT T).sr = 0 := rfl
  obtain ⟨S, hS⟩ : ∃ x, suiteL (leastT T) (tellsOf (leastT T)) = x := ⟨_, rfl⟩
  have hw : ∀ x ∈ S, (∀ e ∈ x, 0 ≤ e ∧ e < T.ev) ∧ x.length ≤ 200 := fun x hx => by rw [← hS] at hx; exact suite_words hL hx
  rw [hS]
  have hwd : S.any (fun l => !T.worded l) = false := by
    rw [List.any_eq_false]
    intro x hx
    obtain ⟨h1, h2⟩ := hw x hx
    have : T.worded x = true := by
      unfold Tb.worded
      simp only [Bool.and_eq_true, decide_eq_true_eq, List.all_eq_true]
      exact ⟨h2, fun e he => h1 e he⟩
    simp [this]
  have vT := (validT_iff T).mpr hT
  have vU := (validT_iff U).mpr hU
  unfold passF alikeF ValidTwo
  rw [vT, vU, decide_eq_true hev, hwd]
  simp only [Bool.and_self, Bool.not_false, if_true, Prod.mk.injEq, and_true]
  have hlaw := differT_law hT hU hev (a := T.sr) (b := U.sr) hT.sr hU.sr
  have hout : ∀ x ∈ S, outsF T x = ((leastT T).run (leastT T).sr x).1 := fun x hx => by
    unfold outsF
    rw [hsr]
    exact least_run hT x _ _ (hw x hx).1 (rel_start hT)
  by_cases hap : Ap T U T.sr U.sr
  · have h1 : (differT T U T.sr U.sr).isNone = false := by
      have := hlaw.mpr hap
      cases hd : differT T U T.sr U.sr with
      | none => rw [hd] at this; cases this
      | some _ => rfl
    rw [h1]
    have h2 : ¬ ∀ x ∈ suiteL (leastT T) (tellsOf (leastT T)), ((leastT T).run (leastT T).sr x).1 = (U.run U.sr x).1 := fun hp => hW.main hp (by rw [hsr]; exact ap_least hT hap 0 (rel_start hT))
    rw [hS] at h2
    rw [Bool.not_eq_false', List.any_eq_true]
    obtain ⟨x, hx⟩ := Classical.not_forall.mp h2
    obtain ⟨hx, hne⟩ := Classical.not_imp.mp hx
    refine ⟨x, hx, ?_⟩
    rw [Bool.not_eq_true', decide_eq_false_iff_not, hout x hx]
    exact hne
  · have h1 : (differT T U T.sr U.sr).isNone = true := by
      cases hd : differT T U T.sr U.sr with
      | none => rfl
      | some _ => rw [hd] at hlaw; exact absurd (hlaw.mp rfl) hap
    rw [h1, Bool.not_eq_true', List.any_eq_false]
    intro x hx
    have : outsF T x = outsF U x := alike_run x _ _ (hw x hx).1 hap
    simp [this]
theorem suite_finds {T U : Tb} (hT : VT T) (hU : VT U) (hmT : missL T = []) (hmU : missL U = []) (hev : T.ev = U.ev) (hle : U.st ≤ (leastT T).st) : passF T U (suiteL (leastT T) (tellsOf (leastT T))) = alikeF T U :=
  suite_finds_full hT hU (full_of hT hmT) (full_of hU hmU) hev hle
end Go.Proofs.Ytnggimkkjdipmaa
