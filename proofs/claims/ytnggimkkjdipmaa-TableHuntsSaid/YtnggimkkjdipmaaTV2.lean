import Derived.Test.YtnggimkkjdipmaaTW2
import Derived.Test.YtnggimkkjdipmaaTV1
namespace Go.Proofs.Ytnggimkkjdipmaa
open Go.RowKit
set_option linter.unusedVariables false
set_option linter.unusedSimpArgs false
set_option maxHeartbeats 16000000
set_option maxRecDepth 100000
/-! ### Mutants of a table that is its own Least: plain -/
theorem chg_next {T : Tb} (hT : VT T) {x : Mut} (hx : MutOk T x) (hF : ∀ s e : Int, 0 ≤ s → s < T.st → 0 ≤ e → e < T.ev → 0 ≤ (T.at s e).1) {s e : Int} (h0 : 0 ≤ s) (h1 : s < T.st) (g0 : 0 ≤ e) (g1 : e < T.ev) : 0 ≤ ((T.chg x).at s e).1 := by
  have hC := hT.chg hx
  obtain ⟨k1, k2, hat⟩ := hC.get (s := s) (e := e) h0 h1 g0 g1
  rw [hat]
  have ho := hx
  obtain ⟨o1, o2, o3, o4, o5, o6, o7, o8⟩ := ho
  have hl := hT.len o1 o2
  have hg : T.rows.getD x.1.toNat [] = T.rows[x.1.toNat] := by rw [List.getD_eq_getElem?_getD, List.getElem?_eq_getElem hl]; rfl
  have hrw : (T.chg x).rows = T.rows.set x.1.toNat ((T.rows[x.1.toNat]).set x.2.1.toNat x.2.2) := by unfold Tb.chg; rw [hg]
  have hs := hT.len h0 h1
  obtain ⟨j1, j2, hat2⟩ := hT.get (s := s) (e := e) h0 h1 g0 g1
  have hn := hF s e h0 h1 g0 g1
  rw [hat2] at hn
  have key : ∀ (rows : List (List (Int × Int))) (hr : rows = T.rows.set x.1.toNat ((T.rows[x.1.toNat]).set x.2.1.toNat x.2.2)) (q1 : s.toNat < rows.length) (q2 : e.toNat < rows[s.toNat].length), 0 ≤ (rows[s.toNat][e.toNat]).1 := by
    rintro rows rfl q1 q2
    by_cases hse : x.1.toNat = s.toNat
    · simp only [List.getElem_set, hse, if_true]
      split
      · exact o5
      · exact hn
    · simp only [List.getElem_set, hse, if_false]
      exact hn
  exact key _ hrw k1 k2
theorem all_reached {T : Tb} (hT : VT T) (hst : (leastT T).st = T.st) (s : Int) (h0 : 0 ≤ s) (h1 : s < T.st) : s ∈ orderT T := Classical.byContradiction fun hn => by
  have hM := mems_ok hT
  have hO := order_ok hT
  have hl : ((mems T).length : Int) = T.st := hst
  have hnd : (mems T).Nodup := (List.pairwise_map.mp hM.nd).imp fun h e => h (by rw [e])
  have := pigeon (s :: mems T) ((List.range T.st.toNat).map fun k : Nat => (k : Int)) (List.nodup_cons.mpr ⟨fun hm => hn (hM.sub s hm), hnd⟩) (fun y hy => by
    have hr : 0 ≤ y ∧ y < T.st := by
      rcases List.mem_cons.mp hy with rfl | hy
      · exact ⟨h0, h1⟩
      · exact hM.rng y hy
    exact List.mem_map.mpr ⟨y.toNat, List.mem_range.mpr (by omega), by omega⟩)
  simp only [List.length_cons, List.length_map, List.length_range] at this
  omega
theorem hunts_plain {T : Tb} (hT : VT T) (hm : missL T = []) (hst : (leastT T).st = T.st) {x : Mut} (hx : x ∈ mutL T) : VT (T.chg x) ∧ passF T (T.chg x) (suiteL (leastT T) (tellsOf (leastT T))) = alikeF T (T.chg x) := by
  have hok := mutL_ok hT x hx
  have hC := hT.chg hok
  have hFT := full_of hT hm
  have hall : ∀ s e : Int, 0 ≤ s → s < T.st → 0 ≤ e → e < T.ev → 0 ≤ (T.at s e).1 := fun s e h0 h1 g0 g1 => hFT s (all_reached hT hst s h0 h1) e g0 g1
  have hFC : Full (T.chg x) := fun s hs e g0 g1 => by
    have hr := (order_ok hC).rng s hs
    exact chg_next hT hok hall hr.1 hr.2 g0 g1
  exact ⟨hC, suite_finds_full hT hC hFT hFC rfl (by rw [hst]; exact Int.le_refl _)⟩
theorem mutL_pos {T : Tb} (hT : VT T) (hm : missL T = []) : 0 < (mutL T).length := by
  have hFT := full_of hT hm
  have hO := order_ok hT
  have hsr : T.sr ∈ orderT T := by obtain ⟨t, ht⟩ := hO.hd; rw [ht]; simp
  have hr := hT.sr
  have hev := hT.ev
  obtain ⟨_, _, hl⟩ := row_at hT (s := T.sr) hr
  have hn := hFT _ hsr 0 (Int.le_refl _) (by omega)
  obtain ⟨row, hrow⟩ : ∃ x, T.rows.getD T.sr.toNat [] = x := ⟨_, rfl⟩
  rw [hrow] at hl
  cases row with
  | nil => simp at hl; omega
  | cons r rs =>
    have hat : T.at T.sr 0 = r := by unfold Tb.at; rw [hrow]; rfl
    rw [hat] at hn
    have hmem : (T.sr, ((0 : Nat) : Int), (r.1, outM r.2)) ∈ mutL T := by
      unfold mutL
      rw [List.mem_flatMap]
      refine ⟨T.sr, (reachL_mem hT _).mpr hsr, ?_⟩
      unfold mutS
      rw [hrow]
      unfold mutRows
      refine List.mem_append.mpr (.inl ?_)
      unfold mutRow
      rw [if_neg (by omega)]
      simp
    exact List.length_pos_of_mem hmem
end Go.Proofs.Ytnggimkkjdipmaa
