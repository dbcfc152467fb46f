import Derived.Test.YtnggimkkjdipmaaTS2
namespace Go.Proofs.Ytnggimkkjdipmaa
open Go.RowKit
set_option linter.unusedVariables false
set_option linter.unusedSimpArgs false
/-! ### The least table of the least table is itself -/
def kStep (o : List Int) (r : Int × Int) : List Int := if 0 ≤ r.1 ∧ r.1 ∉ o then o ++ [r.1] else o
def kRow (rs : List (Int × Int)) (o : List Int) : List Int := rs.foldl kStep o
def kF (T : Tb) : Nat → Nat → List Int → List Int
  | 0, _, o => o
  | f + 1, i, o => if i < o.length then kF T f (i + 1) (kRow (T.rows.getD (o.getD i 0).toNat []) o) else o
theorem kStep_key (word : List Int) (L : List (Int × List Int)) (e : Nat) (r : Int × Int) : keyW (wStep word L e r) = kStep (keyW L) r := by
  unfold wStep kStep
  rw [any_keys]
  by_cases h : 0 ≤ r.1 ∧ r.1 ∉ keyW L
  · rw [if_pos h, if_pos ⟨h.1, by simpa using h.2⟩]; simp
  · rw [if_neg h, if_neg (fun hc => h ⟨hc.1, by simpa using hc.2⟩)]
theorem kRow_key (word : List Int) : ∀ (rs : List (Int × Int)) (e : Nat) (L : List (Int × List Int)), keyW (wRow word e rs L) = kRow rs (keyW L)
  | [], e, L => rfl
  | r :: rs, e, L => by
    rw [wRow_cons, kRow_key word rs (e + 1), kStep_key]; rfl
theorem kF_key (T : Tb) : ∀ (f i : Nat) (L : List (Int × List Int)), keyW (walkF T f i L) = kF T f i (keyW L)
  | 0, i, L => rfl
  | f + 1, i, L => by
    unfold walkF kF
    by_cases h : i < L.length
    · rw [if_pos h, if_pos (by simpa using h), kF_key T f (i + 1)]
      unfold wRound
      rw [kRow_key]
      congr 3
      rw [List.getD_eq_getElem?_getD, List.getD_eq_getElem?_getD, List.getElem?_map, List.getElem?_eq_getElem h]; rfl
    · rw [if_neg h, if_neg (by simpa using h)]
theorem order_kF (T : Tb) : orderT T = kF T 40 0 [T.sr] := kF_key T 40 0 [(T.sr, [])]
theorem kStep_pre (o : List Int) (r : Int × Int) : ∃ t, kStep o r = o ++ t := by
  unfold kStep; split
  · exact ⟨_, rfl⟩
  · exact ⟨[], by simp⟩
theorem kRow_pre : ∀ (rs : List (Int × Int)) (o : List Int), ∃ t, kRow rs o = o ++ t
  | [], o => ⟨[], by simp [kRow]⟩
  | r :: rs, o => by
    obtain ⟨t, h⟩ := kStep_pre o r
    obtain ⟨t', h'⟩ := kRow_pre rs (kStep o r)
    exact ⟨t ++ t', by show kRow rs (kStep o r) = _; rw [h', h, List.append_assoc]⟩
theorem kRow_all : ∀ (rs : List (Int × Int)) (o : List Int) (r : Int × Int), r ∈ rs → 0 ≤ r.1 → r.1 ∈ kRow rs o
  | r :: rs, o, q, hq, h0 => by
    show q.1 ∈ kRow rs (kStep o r)
    rcases List.mem_cons.mp hq with rfl | hq
    · obtain ⟨t, h⟩ := kRow_pre rs (kStep o q)
      rw [h]
      refine List.mem_append.mpr (.inl ?_)
      unfold kStep
      split
      · simp
      · rename_i hc
        exact Classical.byContradiction fun hn => hc ⟨h0, hn⟩
    · exact kRow_all rs _ q hq h0
theorem kF_pre (T : Tb) : ∀ (f i : Nat) (o : List Int), ∃ t, kF T f i o = o ++ t
  | 0, i, o => ⟨[], by simp [kF]⟩
  | f + 1, i, o => by
    unfold kF
    split
    · obtain ⟨t, h⟩ := kRow_pre (T.rows.getD (o.getD i 0).toNat []) o
      obtain ⟨t', h'⟩ := kF_pre T f (i + 1) (kRow (T.rows.getD (o.getD i 0).toNat []) o)
      exact ⟨t ++ t', by rw [h', h, List.append_assoc]⟩
    · exact ⟨[], by simp⟩
theorem memF_app (cls : List Int) : ∀ (o t mem : List Int), memF cls (o ++ t) mem = memF cls t (memF cls o mem)
  | [], t, mem => rfl
  | x :: o, t, mem => memF_app cls o t _
theorem memF_pre (cls : List Int) (o t : List Int) : ∃ t', memF cls (o ++ t) [] = memF cls o [] ++ t' := by
  rw [memF_app]
  obtain ⟨_, h, _⟩ := memF_law cls t (memF cls o []) (memF_law cls o [] (by simp)).1
  exact h
def iota (c : Nat) : List Int := (List.range c).map fun k : Nat => (k : Int)
theorem iota_len (c : Nat) : (iota c).length = c := by simp [iota]
theorem iota_succ (c : Nat) : iota (c + 1) = iota c ++ [(c : Int)] := by simp [iota, List.range_succ]
theorem iota_mem (c k : Nat) : (k : Int) ∈ iota c ↔ k < c := by
  unfold iota
  simp only [List.mem_map, List.mem_range]
  constructor
  · rintro ⟨j, hj, e⟩; omega
  · intro h; exact ⟨k, h, rfl⟩
/-- The place of a class among the classes of the members. -/
theorem place {T : Tb} (hM : MeOk T) {o : List Int} {t : List Int} (ho : orderT T = o ++ t) {x : Int} (hx : x ∈ orderT T) :
    (gI (classes T) x ∈ (memF (classes T) o []).map (gI (classes T)) ↔ ((mems T).map (gI (classes T))).idxOf (gI (classes T) x) < (memF (classes T) o []).length) := by
  obtain ⟨t', ht'⟩ := memF_pre (classes T) o t
  rw [← ho] at ht'
  have hm : mems T = memF (classes T) o [] ++ t' := ht'
  have hkeys : (mems T).map (gI (classes T)) = (memF (classes T) o []).map (gI (classes T)) ++ t'.map (gI (classes T)) := by rw [hm, List.map_append]
  have hin := hM.cov x hx
  have hi := idx_lt _ _ hin
  have hg := List.getElem_idxOf hi
  constructor
  · intro h
    rw [hkeys]
    have := idx_lt _ _ h
    rw [List.idxOf_append, if_pos h]
    simpa using this
  · intro h
    have h2 : ((mems T).map (gI (classes T)))[((mems T).map (gI (classes T))).idxOf (gI (classes T) x)]? = some (gI (classes T) x) := by rw [List.getElem?_eq_getElem hi, hg]
    rw [hkeys, List.getElem?_append_left (by rw [← hkeys]; simpa using h)] at h2
    exact List.mem_of_getElem? h2
theorem row_sim {T : Tb} (hM : MeOk T) : ∀ (rs : List (Int × Int)) (o t : List Int), orderT T = kRow rs o ++ t → (∀ r ∈ rs, 0 ≤ r.1 → r.1 ∈ orderT T) →
    kRow (rs.map (leastR (classes T) ((mems T).map (gI (classes T))))) (iota (memF (classes T) o []).length) = iota (memF (classes T) (kRow rs o) []).length
  | [], o, t, _, _ => rfl
  | r :: rs, o, t, ho, hr => by
    have ih := fun o' h => row_sim hM rs o' t h (fun q hq => hr q (by simp [hq]))
    have ho' : orderT T = kRow rs (kStep o r) ++ t := ho
    show kRow (rs.map _) (kStep (iota _) (leastR _ _ r)) = iota (memF (classes T) (kRow rs (kStep o r)) []).length
    rw [← ih (kStep o r) ho']
    congr 1
    by_cases h0 : 0 ≤ r.1
    · have hx := hr r (by simp) h0
      have hc := hM.cov _ hx
      obtain ⟨t1, e1⟩ := kStep_pre o r
      obtain ⟨t2, e2⟩ := kRow_pre rs (kStep o r)
      have hp := place hM (o := o) (t := t1 ++ t2 ++ t) (by rw [ho', e2, e1]; simp [List.append_assoc]) hx
      have hl : leastR (classes T) ((mems T).map (gI (classes T))) r = (((((mems T).map (gI (classes T))).idxOf (gI (classes T) r.1) : Nat) : Int), r.2) := by
        unfold leastR; rw [if_pos h0, if_pos hc]
      rw [hl]
      obtain ⟨d, hd⟩ : ∃ d, ((mems T).map (gI (classes T))).idxOf (gI (classes T) r.1) = d := ⟨_, rfl⟩
      rw [hd] at hp ⊢
      by_cases hin : r.1 ∈ o
      · have hk : kStep o r = o := by unfold kStep; rw [if_neg (fun h => h.2 hin)]
        have hmem : gI (classes T) r.1 ∈ (memF (classes T) o []).map (gI (classes T)) := (memF_law (classes T) o [] (by simp)).2.2 _ hin
        rw [hk]
        unfold kStep
        rw [if_neg (fun h => h.2 ((iota_mem _ _).mpr (hp.mp hmem)))]
      · have hk : kStep o r = o ++ [r.1] := by unfold kStep; rw [if_pos ⟨h0, hin⟩]
        rw [hk, memF_snoc]
        by_cases hmem : gI (classes T) r.1 ∈ (memF (classes T) o []).map (gI (classes T))
        · rw [if_pos hmem]
          unfold kStep
          rw [if_neg (fun h => h.2 ((iota_mem _ _).mpr (hp.mp hmem)))]
        · rw [if_neg hmem]
          have hge : ¬ d < (memF (classes T) o []).length := fun h => hmem (hp.mpr h)
          have hp2 := place hM (o := o ++ [r.1]) (t := t2 ++ t) (by rw [ho', e2, hk]; simp [List.append_assoc]) hx
          rw [memF_snoc, if_neg hmem, hd] at hp2
          have hlt := hp2.mp (by simp)
          simp at hlt
          have hde : d = (memF (classes T) o []).length := by omega
          unfold kStep
          rw [if_pos ⟨by dsimp only; omega, fun h => hge ((iota_mem _ _).mp h)⟩]
          rw [List.length_append, List.length_singleton, iota_succ, hde]
    · have hk : kStep o r = o := by unfold kStep; rw [if_neg (fun h => h0 h.1)]
      have hl : leastR (classes T) ((mems T).map (gI (classes T))) r = r := by unfold leastR; rw [if_neg h0]
      rw [hk, hl]
      unfold kStep
      rw [if_neg (fun h => h0 h.1)]
theorem memF_row (cls : List Int) : ∀ (rs : List (Int × Int)) (o : List Int), (∀ r ∈ rs, 0 ≤ r.1 → gI cls r.1 ∈ (memF cls o []).map (gI cls)) → memF cls (kRow rs o) [] = memF cls o []
  | [], o, _ => rfl
  | r :: rs, o, h => by
    show memF cls (kRow rs (kStep o r)) [] = _
    have hs : memF cls (kStep o r) [] = memF cls o [] := by
      unfold kStep
      split
      · rename_i hc
        rw [memF_snoc, if_pos (h r (by simp) hc.1)]
      · rfl
    rw [memF_row cls rs (kStep o r) (fun q hq h0 => by rw [hs]; exact h q (by simp [hq]) h0), hs]
theorem kF_sim {T : Tb} (hT : VT T) : ∀ (f i f' : Nat) (o : List Int), f + i = 40 → orderT T = kF T f i o → (∀ s ∈ o, 0 ≤ s ∧ s < T.st) → (∀ k (h : k < o.length), k < i → CloW T o o[k]) → i ≤ o.length → o.length ≤ 30 → f' + (memF (classes T) (o.take i) []).length = 40 →
    kF (leastT T) f' (memF (classes T) (o.take i) []).length (iota (memF (classes T) o []).length) = iota (memF (classes T) (orderT T) []).length
  | f, i, f', o, hf, ho, hrg, hC, hi, hlen, hf' => by
    have hM := mems_ok hT
    by_cases hlt : i < o.length
    · obtain ⟨f, rfl⟩ : ∃ g, f = g + 1 := ⟨f - 1, by omega⟩
      have e0 : o.getD i 0 = o[i] := by rw [List.getD_eq_getElem?_getD, List.getElem?_eq_getElem hlt]; rfl
      have ho2 := ho
      unfold kF at ho2
      rw [if_pos hlt, e0] at ho2
      obtain ⟨t, ht⟩ := kF_pre T f (i + 1) (kRow (T.rows.getD (o[i]).toNat []) o)
      rw [ht] at ho2
      have hs := hrg _ (List.getElem_mem hlt)
      obtain ⟨hr1, hr2, _⟩ := row_at hT hs
      have hO := order_ok hT
      obtain ⟨t1, ht1⟩ := kRow_pre (T.rows.getD (o[i]).toNat []) o
      have hin : ∀ x ∈ kRow (T.rows.getD (o[i]).toNat []) o, x ∈ orderT T := fun x hx => by rw [ho2]; exact List.mem_append.mpr (.inl hx)
      have hrg2 : ∀ s ∈ kRow (T.rows.getD (o[i]).toNat []) o, 0 ≤ s ∧ s < T.st := fun s hs => hO.rng s (hin s hs)
      have hlen2 : (kRow (T.rows.getD (o[i]).toNat []) o).length ≤ 30 := by
        have := hO.len
        rw [ho2, List.length_append] at this
        have := hT.st
        omega
      have hC2 : ∀ k (h : k < (kRow (T.rows.getD (o[i]).toNat []) o).length), k < i + 1 → CloW T (kRow (T.rows.getD (o[i]).toNat []) o) (kRow (T.rows.getD (o[i]).toNat []) o)[k] := fun k hk hki => by
        have hko : k < o.length := by omega
        have e2 : (kRow (T.rows.getD (o[i]).toNat []) o)[k] = o[k] := by simp only [ht1]; rw [List.getElem_append_left hko]
        rw [e2]
        by_cases hke : k < i
        · intro e g0 g1 hn
          rw [ht1]
          exact List.mem_append.mpr (.inl (hC k hko hke e g0 g1 hn))
        · obtain rfl : k = i := by omega
          intro e g0 g1 hn
          exact kRow_all _ _ _ (hr2 e g0 g1) hn
      have htk : (kRow (T.rows.getD (o[i]).toNat []) o).take (i + 1) = o.take i ++ [o[i]] := by
        rw [ht1, List.take_append_of_le_length (by omega), List.take_succ_eq_append_getElem hlt]
      have hol : o.length ≤ (kRow (T.rows.getD (o[i]).toNat []) o).length := by rw [ht1, List.length_append]; omega
      by_cases hcl : gI (classes T) o[i] ∈ (memF (classes T) (o.take i) []).map (gI (classes T))
      · obtain ⟨m, hm, hme⟩ := List.mem_map.mp hcl
        have hmo : m ∈ o.take i := by
          rcases memF_mem _ _ _ _ hm with h | h
          · simp at h
          · exact h
        obtain ⟨j, hj, rfl⟩ := List.getElem_of_mem hmo
        rw [List.length_take] at hj
        have hji : j < i := by omega
        have hjo : j < o.length := by omega
        rw [List.getElem_take] at hme
        have hB := classes_bis hT
        have hsame : memF (classes T) (kRow (T.rows.getD (o[i]).toNat []) o) [] = memF (classes T) o [] := memF_row _ _ _ fun r hr h0 => by
          obtain ⟨e, g0, g1, rfl⟩ := hr1 r hr
          obtain ⟨g2, g3⟩ := hB.same _ _ hs (hrg _ (List.getElem_mem hjo)) hme.symm e g0 g1
          rw [g3 h0]
          have g4 := diffR_false.mp g2
          exact (memF_law (classes T) o [] (by simp)).2.2 _ (hC j hjo hji e g0 g1 (by have := g4.1; omega))
        have htk2 : memF (classes T) ((kRow (T.rows.getD (o[i]).toNat []) o).take (i + 1)) [] = memF (classes T) (o.take i) [] := by rw [htk, memF_snoc, if_pos hcl]
        have ih := kF_sim hT f (i + 1) f' (kRow (T.rows.getD (o[i]).toNat []) o) (by omega) (by rw [ho2, ht]) hrg2 hC2 (by omega) hlen2 (by rw [htk2]; exact hf')
        rw [htk2, hsame] at ih
        exact ih
      · have htk2 : memF (classes T) ((kRow (T.rows.getD (o[i]).toNat []) o).take (i + 1)) [] = memF (classes T) (o.take i) [] ++ [o[i]] := by rw [htk, memF_snoc, if_neg hcl]
        have hpre : ∃ t', memF (classes T) o [] = memF (classes T) (o.take i) [] ++ [o[i]] ++ t' := by
          obtain ⟨t', h'⟩ := memF_pre (classes T) (o.take (i + 1)) (o.drop (i + 1))
          rw [List.take_append_drop, List.take_succ_eq_append_getElem hlt, memF_snoc, if_neg hcl] at h'
          exact ⟨t', h'⟩
        obtain ⟨t', hp⟩ := hpre
        have hlt2 : (memF (classes T) (o.take i) []).length < (memF (classes T) o []).length := by rw [hp]; simp
        have hmo : (memF (classes T) o []).length ≤ 30 := by have := memF_len (classes T) o []; simp at this; omega
        obtain ⟨g', rfl⟩ : ∃ g, f' = g + 1 := ⟨f' - 1, by omega⟩
        have hmm : ∃ t2, mems T = memF (classes T) o [] ++ t2 := by
          obtain ⟨t2, h2⟩ := memF_pre (classes T) o (t1 ++ t)
          exact ⟨t2, by unfold mems; rw [ho2, ht1, List.append_assoc]; exact h2⟩
        obtain ⟨t2, hmm⟩ := hmm
        have hget : (mems T)[(memF (classes T) (o.take i) []).length]? = some o[i] := by
          rw [hmm, hp, List.append_assoc, List.append_assoc, List.getElem?_append_right (Nat.le_refl _), Nat.sub_self]; rfl
        have hrow : (leastT T).rows.getD ((iota (memF (classes T) o []).length).getD (memF (classes T) (o.take i) []).length 0).toNat [] = (T.rows.getD (o[i]).toNat []).map (leastR (classes T) ((mems T).map (gI (classes T)))) := by
          have : (iota (memF (classes T) o []).length).getD (memF (classes T) (o.take i) []).length 0 = ((memF (classes T) (o.take i) []).length : Int) := by
            unfold iota
            rw [List.getD_eq_getElem?_getD, List.getElem?_map, List.getElem?_range hlt2]; rfl
          rw [this, Int.toNat_natCast]
          show (leastRows T).getD _ [] = _
          unfold leastRows
          rw [List.getD_eq_getElem?_getD, List.getElem?_map, hget]; rfl
        conv => lhs; unfold kF
        rw [if_pos (by rw [iota_len]; exact hlt2), hrow, row_sim hM _ o t ho2 (fun r hr h0 => hin _ (kRow_all _ _ _ hr h0))]
        have ih := kF_sim hT f (i + 1) g' (kRow (T.rows.getD (o[i]).toNat []) o) (by omega) (by rw [ho2, ht]) hrg2 hC2 (by omega) hlen2 (by rw [htk2, List.length_append, List.length_singleton]; omega)
        rw [htk2, List.length_append, List.length_singleton] at ih
        exact ih
    · have hio : i = o.length := by omega
      have hoo : orderT T = o := by
        rw [ho]
        cases f with
        | zero => rfl
        | succ f => unfold kF; rw [if_neg hlt]
      rw [hoo, hio, List.take_length]
      cases f' with
      | zero => rfl
      | succ g => unfold kF; rw [if_neg (by rw [iota_len]; omega)]
termination_by f => f
/-- The states of the least table are met in their own order. -/
theorem least_order {T : Tb} (hT : VT T) : orderT (leastT T) = iota (mems T).length := by
  have := kF_sim hT 40 0 40 [T.sr] rfl (order_kF T) (fun s hs => by simp at hs; subst hs; exact hT.sr) (fun k hk hki => by omega) (by simp) (by simp) rfl
  rw [order_kF]
  exact this
/-- A table whose states are met in their own order, no two of one class, is its own least. -/
theorem rows_self {M : Tb} (hL : VT M) (hmem : mems M = iota M.st.toNat) (hinj : ∀ x y : Int, 0 ≤ x ∧ x < M.st → 0 ≤ y ∧ y < M.st → gI (classes M) x = gI (classes M) y → x = y) : leastRows M = M.rows := by
  obtain ⟨n, hn⟩ : ∃ n, M.st.toNat = n := ⟨_, rfl⟩
  rw [hn] at hmem
  have hrl := hL.rows
  have hst := hL.st
  obtain ⟨cls, hcls⟩ : ∃ c, classes M = c := ⟨_, rfl⟩
  rw [hcls] at hinj
  have hkm : ∀ x : Int, 0 ≤ x ∧ x < M.st → gI cls x ∈ (iota n).map (gI cls) := fun x hx => by
    have := (iota_mem n x.toNat).mpr (by omega)
    rw [Int.toNat_of_nonneg hx.1] at this
    exact List.mem_map.mpr ⟨x, this, rfl⟩
  have hkeys : ∀ x : Int, 0 ≤ x ∧ x < M.st → (((iota n).map (gI cls)).idxOf (gI cls x) : Int) = x := fun x hx => by
    have hin := hkm x hx
    have hi := idx_lt _ _ hin
    have hg := List.getElem_idxOf hi
    obtain ⟨d, hd⟩ : ∃ d, ((iota n).map (gI cls)).idxOf (gI cls x) = d := ⟨_, rfl⟩
    simp only [hd] at hg
    rw [hd] at hi ⊢
    have hdn : d < n := by simpa [iota] using hi
    have hgd : (iota n)[d]'(by rw [iota_len]; exact hdn) = (d : Int) := by simp [iota]
    rw [List.getElem_map, hgd] at hg
    exact hinj _ _ (by omega) hx hg
  unfold leastRows
  rw [hmem, hcls]
  apply List.ext_getElem
  · simp [iota]; omega
  · intro i h1 h2
    have hi : i < n := by simpa [iota] using h1
    have hgi : (iota n)[i]'(by rw [iota_len]; exact hi) = (i : Int) := by simp [iota]
    rw [List.getElem_map, hgi, Int.toNat_natCast, List.getD_eq_getElem?_getD, List.getElem?_eq_getElem h2]
    show (M.rows[i]).map _ = M.rows[i]
    apply List.ext_getElem
    · simp
    · intro j g1 g2
      rw [List.getElem_map]
      have hcell := hL.cell _ (List.getElem_mem h2) _ (List.getElem_mem g2)
      unfold leastR
      split
      · rename_i hn0
        have hx : 0 ≤ (M.rows[i][j]).1 ∧ (M.rows[i][j]).1 < M.st := ⟨hn0, hcell.2.1⟩
        rw [if_pos (hkm _ hx), hkeys _ hx]
      · rfl
theorem least_self {T : Tb} (hT : VT T) : leastT (leastT T) = leastT T := by
  have hL := least_valid hT
  have hM := mems_ok hT
  have hB := classes_bis hL
  have hord := least_order hT
  have st' : (leastT T).st = ((mems T).length : Int) := rfl
  have hinj : ∀ x y : Int, 0 ≤ x ∧ x < (leastT T).st → 0 ≤ y ∧ y < (leastT T).st → gI (classes (leastT T)) x = gI (classes (leastT T)) y → x = y := fun x y hx hy hc => by
    refine Classical.byContradiction fun hne => ?_
    have key : ∀ a b : Int, Ap (leastT T) (leastT T) a b → 0 ≤ a ∧ a < (leastT T).st → 0 ≤ b ∧ b < (leastT T).st → gI (classes (leastT T)) a = gI (classes (leastT T)) b → False := by
      intro a b h
      induction h with
      | here h0 h1 hd => intro ha hb hc; have := (hB.same _ _ ha hb hc _ h0 h1).1; rw [hd] at this; cases this
      | next h0 h1 h2 h3 _ ih =>
        intro ha hb hc
        have r1 := hL.atOk ha.1 ha.2 h0 h1
        have r2 := hL.atOk hb.1 hb.2 h0 h1
        exact ih ⟨h2, r1.2.1⟩ ⟨h3, r2.2.1⟩ ((hB.same _ _ ha hb hc _ h0 h1).2 h2)
    exact key x y (least_pairs hT hx hy hne) hx hy hc
  have hio : ∀ x ∈ iota (mems T).length, 0 ≤ x ∧ x < (leastT T).st := fun x hx => by
    obtain ⟨k, hk, rfl⟩ := List.mem_map.mp hx
    rw [st']
    have := List.mem_range.mp hk
    constructor <;> omega
  have hmem : mems (leastT T) = iota (mems T).length := by
    have hgen : ∀ (o mem : List Int), (mem ++ o).Nodup → (∀ x ∈ mem ++ o, 0 ≤ x ∧ x < (leastT T).st) → memF (classes (leastT T)) o mem = mem ++ o := by
      intro o
      induction o with
      | nil => intro mem _ _; simp [memF]
      | cons s o ih =>
        intro mem hnd hr
        have hm : memF (classes (leastT T)) (s :: o) mem = memF (classes (leastT T)) o (if gI (classes (leastT T)) s ∈ mem.map (gI (classes (leastT T))) then mem else mem ++ [s]) := rfl
        have hns : ¬ gI (classes (leastT T)) s ∈ mem.map (gI (classes (leastT T))) := fun hc => by
          obtain ⟨y, hy, he⟩ := List.mem_map.mp hc
          have := hinj y s (hr y (by simp [hy])) (hr s (by simp)) he
          subst this
          rw [List.nodup_append] at hnd
          exact hnd.2.2 y hy y (by simp) rfl
        rw [hm, if_neg hns, ih (mem ++ [s]) (by rw [List.append_assoc]; exact hnd) (by rw [List.append_assoc]; exact hr), List.append_assoc]; rfl
    unfold mems
    rw [hord]
    have hnd := (order_ok hL).nd
    rw [hord] at hnd
    have := hgen (iota (mems T).length) [] (by simpa using hnd) (by simpa using hio)
    rw [List.nil_append] at this
    exact this
  have hrows : leastRows (leastT T) = (leastT T).rows := rows_self hL (by rw [hmem]; rfl) hinj
  have hst : ((mems (leastT T)).length : Int) = (leastT T).st := by rw [hmem, iota_len]; rfl
  show (⟨((mems (leastT T)).length : Int), (leastT T).ev, 0, leastRows (leastT T)⟩ : Tb) = leastT T
  rw [hst, hrows]
  rfl
end Go.Proofs.Ytnggimkkjdipmaa
