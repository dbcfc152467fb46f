import Derived.Test.YtnggimkkjdipmaaTC6
import Derived.Test.YtnggimkkjdipmaaTC7
namespace Go.Proofs.Ytnggimkkjdipmaa
open Go.RowKit
set_option linter.unusedVariables false
set_option linter.unusedSimpArgs false
set_option maxHeartbeats 16000000
set_option maxRecDepth 100000
/-! ### Reach, as the reference reckons -/
def reachTo (T : Tb) (k : Nat) : List Int := ((List.range k).map fun k : Nat => (k : Int)).filter fun s => decide (s ∈ orderT T)
theorem reachTo_all (T : Tb) : reachTo T T.st.toNat = reachL T := rfl
theorem reachTo_succ (T : Tb) (k : Nat) : reachTo T (k + 1) = reachTo T k ++ if (k : Int) ∈ orderT T then [(k : Int)] else [] := by
  unfold reachTo
  rw [List.range_succ, List.map_append, List.filter_append]
  congr 1
  by_cases h : (k : Int) ∈ orderT T <;> simp [h]
theorem reachTo_len (T : Tb) (k : Nat) : (reachTo T k).length ≤ k := by
  have := List.length_filter_le (fun s => decide (s ∈ orderT T)) ((List.range k).map fun k : Nat => (k : Int))
  simpa [reachTo] using this
theorem rReach_any (T : Tb) (v : Value) (w : World) (hT : TIn w v T) :
    Calls Try.prog 34 #[v] w fun e w' => ∃ ov, e = .returned (.tuple #[ov, .int .i64 (reachF T).2]) ∧ NIn w' ov (reachF T).1 ∧ Fr [] w w' := by
  obtain ⟨r, rfl, hR⟩ := hT
  rw [show T.val r = .agg #[.int .i64 T.st, .int .i64 T.ev, .int .i64 T.sr, r] from rfl]
  have VA : ∀ W, Fr [] w W → Calls Try.prog 20 #[.agg #[.int .i64 T.st, .int .i64 T.ev, .int .i64 T.sr, r]] W fun e w' => e = .returned (.bool (validT T)) ∧ Fr [] W w' := fun W f => rvalid_any T _ W ⟨r, rfl, hR.fr f⟩
  obtain ⟨w1, hw1⟩ : ∃ x, w.alloc (.cells #[.int .i64 T.st, .int .i64 T.ev, .int .i64 T.sr, r] RTab) = x := ⟨_, rfl⟩
  have P1 := Pt.newA w RTab #[.int .i64 T.st, .int .i64 T.ev, .int .i64 T.sr, r]
  rw [hw1] at P1
  have F1 : Fr [] w w1 := by rw [← hw1]; exact (Fr.refl [] w).alloc _
  obtain ⟨b1, hb1⟩ : ∃ x, w.heap.size = x := ⟨_, rfl⟩
  rw [hb1] at P1
  have k1 := P1.cell
  replace P1 := Lib.hid P1; replace F1 := Lib.hid F1; replace VA := Lib.hid VA; replace hR := Lib.hid hR
  obtain ⟨⟨X, z⟩, hX⟩ : ∃ x, reachF T = x := ⟨_, rfl⟩
  rw [hX]
  dsimp only
  replace hX := Lib.hid hX
  go_enter Try.func34, Try.ntmps34
  go_wp2_with fail
  refine (VA.out _ F1.out).mono ?_
  rintro e w2 ⟨rfl, f2⟩
  have F2 := Lib.hid (F1.out.trans f2)
  have P2 := Lib.hid (f2.pt P1.out (by simp))
  have k2 := P2.out.cell
  replace f2 := Lib.hid f2
  clear k1 hw1 hb1
  cases hv : validT T
  · have hx := hX.out
    unfold reachF at hx
    rw [hv] at hx
    obtain ⟨rfl, rfl⟩ : [] = X ∧ 1 = z := by simpa using hx
    clear hx
    replace hv := Lib.hid hv
    go_wp2_with fail
    go_ret2
    exact ⟨_, rfl, NIn.nil _, F2.out⟩
  · have hV := (validT_iff T).mp hv
    have hx := hX.out
    unfold reachF at hx
    rw [hv] at hx
    obtain ⟨rfl, rfl⟩ : reachL T = X ∧ 0 = z := by simpa using hx
    clear hx
    have RE := rreached_any T _ w2 ⟨r, rfl, hR.out.fr F2.out⟩ hV
    have hst := hV.st
    obtain ⟨n, hn⟩ : ∃ n : Nat, T.st.toNat = n := ⟨_, rfl⟩
    have hnI : T.st = (n : Int) := by omega
    have hn30 : n ≤ 30 := by omega
    replace RE := Lib.hid RE; replace hv := Lib.hid hv; replace hV := Lib.hid hV; replace hst := Lib.hid hst; replace hn := Lib.hid hn; replace hnI := Lib.hid hnI
    go_wp2_with fail
    refine RE.out.mono ?_
    rintro e w3 ⟨b, R, rfl, hB, hb, hRi, f3⟩
    rw [hn.out] at hB ⊢
    have F3 := F2.out.trans f3
    have P3 := f3.pt P2.out (by simp)
    have l3 := P3.lt
    have lb := hB.lt
    replace f3 := Lib.hid f3; replace F3 := Lib.hid F3; replace P3 := Lib.hid P3; replace hB := Lib.hid hB; replace hRi := Lib.hid hRi
    clear k2
    go_wp2_with fail
    go_loopg [4, 6] (n + 1) (fun k v4 v6 wr => ∃ (i : Nat) (bo : Option Nat), i ≤ n ∧ k + i = n + 1 ∧ v6 = .int .i64 i ∧ Row 1 wr v4 (reachTo T i).length (ints (reachTo T i)) bo ∧ (∀ z, bo = some z → w3.heap.size ≤ z) ∧ Fr [] w3 wr)
    case atStart => exact ⟨0, none, by omega, by omega, rfl, Row.nil 1 _ none, by simp, Fr.refl _ _⟩
    case round =>
      obtain ⟨i, bo, hi, hk, rfl, hr, hbo, hF⟩ := hrel
      have k1 := (hF.pt P3.out (by simp)).cell
      rw [hnI.out] at k1
      by_cases hlt : i < n
      · have hltI : (i : Int) < n := by omega
        have c2 := (hF.pt hB.out (by simp)).cell i
        rw [bools_get _ _ _ hlt] at c2
        have hRi' := hRi.out i (by have := hnI.out; omega)
        have hsc := reachTo_succ T i
        have hln := reachTo_len T i
        cases hRb : R i
        · as_aux_lemma =>
          rw [hRb] at hRi' c2
          rw [if_neg (by rw [← hRi']; simp), List.append_nil] at hsc
          rw [← hsc] at hr
          replace hr := Lib.hid hr; replace hbo := Lib.hid hbo; replace hF := Lib.hid hF; replace hsc := Lib.hid hsc; replace hRi' := Lib.hid hRi'; replace hRb := Lib.hid hRb
          go_wp2_with fail
          go_roundg (gk - 1)
          case measure => omega
          case rel => exact ⟨i + 1, _, by omega, by omega, by go_num, hr.out, hbo.out, hF.out⟩
        · as_aux_lemma =>
          rw [hRb] at hRi' c2
          rw [if_pos (by rw [← hRi'])] at hsc
          obtain ⟨w4, hw4⟩ : ∃ x, wr.alloc (.cells #[.int .i64 (i : Int)] 3) = x := ⟨_, rfl⟩
          have P4 := Pt.newA wr 3 #[.int .i64 (i : Int)]
          rw [hw4] at P4
          have F4 : Fr [] wr w4 := by rw [← hw4]; exact (Fr.refl [] wr).alloc _
          obtain ⟨b4, hb4⟩ : ∃ x, wr.heap.size = x := ⟨_, rfl⟩
          rw [hb4] at P4
          obtain ⟨v', w9, bo', happ, hr9, hb9, f9⟩ := (hr.fr F4 (by simp)).addPt (by omega) P4
          rw [← hsc] at hr9
          have s4 := F4.size
          have s3 := hF.size
          have hb9' : ∀ z, bo' = some z → w3.heap.size ≤ z := fun z hz => by
            rcases hb9 with e | ⟨z', e, h2⟩
            · exact hbo z (by rw [← e]; exact hz)
            · rw [hz] at e; cases e; omega
          have G9 := (hF.trans F4).step f9 (fun z hz => .inr (hbo z (by simpa using hz)))
          obtain ⟨oz, cz, rfl⟩ := hr.len
          replace hr := Lib.hid hr; replace hbo := Lib.hid hbo; replace hF := Lib.hid hF; replace hsc := Lib.hid hsc; replace hRi' := Lib.hid hRi'; replace hRb := Lib.hid hRb; replace P4 := Lib.hid P4; replace F4 := Lib.hid F4; replace hr9 := Lib.hid hr9; replace hb9 := Lib.hid hb9; replace hb9' := Lib.hid hb9'; replace G9 := Lib.hid G9; replace f9 := Lib.hid f9; replace happ := Lib.hid happ
          go_wp2_with (first | (at_builtin; refine wpList_append_run _ rfl _ _ _ rfl rfl rfl happ.out ?_))
          go_roundg (gk - 1)
          case measure => omega
          case rel => exact ⟨i + 1, _, by omega, by omega, by go_num, hr9.out, hb9'.out, G9.out⟩
      · as_aux_lemma =>
        have hltI : ¬ (i : Int) < n := by omega
        obtain rfl : i = n := by omega
        have hall := reachTo_all T
        rw [hn.out] at hall
        rw [hall] at hr
        have FE := F3.out.trans hF
        have PE := hr.nin
        replace hr := Lib.hid hr; replace hbo := Lib.hid hbo; replace hF := Lib.hid hF; replace FE := Lib.hid FE; replace PE := Lib.hid PE; replace hall := Lib.hid hall
        go_wp2_with fail
        go_ret2
        exact ⟨_, rfl, PE.out, FE.out⟩
end Go.Proofs.Ytnggimkkjdipmaa
namespace Go.Proofs.Ytnggimkkjdipmaa
open Go.RowKit
set_option linter.unusedVariables false
set_option linter.unusedSimpArgs false
set_option maxHeartbeats 16000000
set_option maxRecDepth 100000
/-! ### Missing, as the reference reckons -/
def rmTo (T : Tb) (k : Nat) : List (Int × Int) := (reachTo T k).flatMap fun s => missRow s 0 (T.rows.getD s.toNat [])
theorem rmTo_all (T : Tb) : rmTo T T.st.toNat = missL T := rfl
theorem rmTo_succ (T : Tb) (k : Nat) (row : List (Int × Int)) (hr : T.rows.getD k [] = row) : rmTo T (k + 1) = rmTo T k ++ if (k : Int) ∈ orderT T then missRow k 0 row else [] := by
  unfold rmTo
  rw [reachTo_succ, List.flatMap_append]
  congr 1
  by_cases h : (k : Int) ∈ orderT T
  · rw [if_pos h, if_pos h]
    have e : T.rows.getD ((k : Int)).toNat [] = row := by rw [show ((k : Int)).toNat = k by omega]; exact hr
    rw [List.flatMap_cons, List.flatMap_nil, List.append_nil, e]
  · rw [if_neg h, if_neg h]; rfl
theorem rmTo_len {T : Tb} (hT : VT T) (k : Nat) : (rmTo T k).length ≤ k * 12 := by
  have h1 := flat_len2 (fun s : Int => missRow s 0 (T.rows.getD s.toNat [])) 12 (reachTo T k) (fun s _ => by
    have := missRow_len s (T.rows.getD s.toNat []) 0; have := row12 hT s.toNat; omega)
  have h2 := reachTo_len T k
  have h3 : (reachTo T k).length * 12 ≤ k * 12 := Nat.mul_le_mul_right _ h2
  unfold rmTo
  omega
theorem rMissing_any (T : Tb) (v : Value) (w : World) (hT : TIn w v T) :
    Calls Try.prog 36 #[v] w fun e w' => ∃ ov, e = .returned (.tuple #[ov, .int .i64 (missF T).2]) ∧ PIn w' ov (missF T).1 ∧ Fr [] w w' := by
  obtain ⟨r, rfl, hR⟩ := hT
  rw [show T.val r = .agg #[.int .i64 T.st, .int .i64 T.ev, .int .i64 T.sr, r] from rfl]
  have VA : ∀ W, Fr [] w W → Calls Try.prog 20 #[.agg #[.int .i64 T.st, .int .i64 T.ev, .int .i64 T.sr, r]] W fun e w' => e = .returned (.bool (validT T)) ∧ Fr [] W w' := fun W f => rvalid_any T _ W ⟨r, rfl, hR.fr f⟩
  obtain ⟨w1, hw1⟩ : ∃ x, w.alloc (.cells #[.int .i64 T.st, .int .i64 T.ev, .int .i64 T.sr, r] RTab) = x := ⟨_, rfl⟩
  have P1 := Pt.newA w RTab #[.int .i64 T.st, .int .i64 T.ev, .int .i64 T.sr, r]
  rw [hw1] at P1
  have F1 : Fr [] w w1 := by rw [← hw1]; exact (Fr.refl [] w).alloc _
  obtain ⟨b1, hb1⟩ : ∃ x, w.heap.size = x := ⟨_, rfl⟩
  rw [hb1] at P1
  have k1 := P1.cell
  replace P1 := Lib.hid P1; replace F1 := Lib.hid F1; replace VA := Lib.hid VA; replace hR := Lib.hid hR
  obtain ⟨⟨X, z⟩, hX⟩ : ∃ x, missF T = x := ⟨_, rfl⟩
  rw [hX]
  dsimp only
  replace hX := Lib.hid hX
  go_enter Try.func36, Try.ntmps36
  go_wp2_with fail
  refine (VA.out _ F1.out).mono ?_
  rintro e w2 ⟨rfl, f2⟩
  have F2 := Lib.hid (F1.out.trans f2)
  have P2 := Lib.hid (f2.pt P1.out (by simp))
  have k2 := P2.out.cell
  replace f2 := Lib.hid f2
  clear k1 hw1 hb1
  cases hv : validT T
  · have hx := hX.out
    unfold missF at hx
    rw [hv] at hx
    obtain ⟨rfl, rfl⟩ : [] = X ∧ 1 = z := by simpa using hx
    clear hx
    replace hv := Lib.hid hv
    go_wp2_with fail
    go_ret2
    exact ⟨_, rfl, (Row.nil 2 _ none).pinP, F2.out⟩
  · have hV := (validT_iff T).mp hv
    have hx := hX.out
    unfold missF at hx
    rw [hv] at hx
    obtain ⟨rfl, rfl⟩ : missL T = X ∧ 0 = z := by simpa using hx
    clear hx
    have RE := rreached_any T _ w2 ⟨r, rfl, hR.out.fr F2.out⟩ hV
    have hst := hV.st
    have hev := hV.ev
    have hrl := hV.rows
    obtain ⟨n, hn⟩ : ∃ n : Nat, T.st.toNat = n := ⟨_, rfl⟩
    have hnI : T.st = (n : Int) := by omega
    have hn30 : n ≤ 30 := by omega
    obtain ⟨m, hm⟩ : ∃ n : Nat, T.ev.toNat = n := ⟨_, rfl⟩
    have hmI : T.ev = (m : Int) := by omega
    have hm12 : m ≤ 12 := by omega
    replace RE := Lib.hid RE; replace hv := Lib.hid hv; replace hV := Lib.hid hV; replace hst := Lib.hid hst; replace hev := Lib.hid hev; replace hrl := Lib.hid hrl; replace hn := Lib.hid hn; replace hnI := Lib.hid hnI; replace hm := Lib.hid hm; replace hmI := Lib.hid hmI
    go_wp2_with fail
    refine RE.out.mono ?_
    rintro e w3 ⟨b, R, rfl, hB, hb, hRi, f3⟩
    rw [hn.out] at hB ⊢
    have F3 := F2.out.trans f3
    have P3 := f3.pt P2.out (by simp)
    rw [hnI.out, hmI.out] at P3
    have l3 := P3.lt
    have lb := hB.lt
    replace f3 := Lib.hid f3; replace F3 := Lib.hid F3; replace P3 := Lib.hid P3; replace hB := Lib.hid hB; replace hRi := Lib.hid hRi
    clear k2
    go_wp2_with fail
    go_loopg [4, 6] (n + 1) (fun k v4 v6 wr => ∃ (i : Nat) (bo : Option Nat), i ≤ n ∧ k + i = n + 1 ∧ v6 = .int .i64 i ∧ Row 2 wr v4 (rmTo T i).length (pcells (rmTo T i)) bo ∧ (∀ z, bo = some z → w3.heap.size ≤ z) ∧ Fr [] w3 wr)
    case atStart => exact ⟨0, none, by omega, by omega, rfl, Row.nil 2 _ none, by simp, Fr.refl _ _⟩
    case round =>
      obtain ⟨i, bo, hi, hk, rfl, hr, hbo, hF⟩ := hrel
      obtain ⟨wi, rfl⟩ : ∃ x : World, x = wr := ⟨_, rfl⟩
      obtain ⟨gi, rfl⟩ : ∃ g : Nat, g = gk := ⟨_, rfl⟩
      have k1 := (hF.pt P3.out (by simp)).cell
      by_cases hlt : i < n
      · have hltI : (i : Int) < n := by omega
        have hRi' := hRi.out i (by have := hnI.out; omega)
        have hsR : i < T.rows.length := by have := hrl.out; have := hnI.out; omega
        have hsRI : (i : Int) < T.rows.length := by omega
        obtain ⟨oR, cR, rfl, hlR⟩ := hR.out
        obtain ⟨BB, off, u, rfl, hBB, hcB, o2, cap2, rfl, hu⟩ := hlR i hsR
        obtain ⟨row, hrow⟩ : ∃ row, T.rows[i] = row := ⟨_, rfl⟩
        have hrow2 : T.rows.getD i [] = row := by rw [List.getD_eq_getElem?_getD, List.getElem?_eq_getElem hsR, hrow]; rfl
        have hrlen : row.length = m := by have := hV.out.row _ (List.getElem_mem hsR); rw [hrow] at this; have := hmI.out; omega
        rw [hrow] at hu hcB
        have hsc := rmTo_succ T i row hrow2
        have hln := rmTo_len hV.out i
        obtain ⟨Q, hQ⟩ : ∃ q : Bool, q = R i := ⟨_, rfl⟩
        obtain ⟨ML, hML⟩ : ∃ x, rmTo T i = x := ⟨_, rfl⟩
        rw [hML] at hr hsc hln
        have hsc2 : rmTo T (i + 1) = ML ++ if Q = true then missRow i 0 row else [] := by
          rw [hsc]; congr 1
          by_cases h : (i : Int) ∈ orderT T
          · rw [if_pos h, if_pos (by rw [hQ]; exact hRi'.mpr h)]
          · rw [if_neg h, if_neg (by rw [hQ]; exact fun e => h (hRi'.mp e))]
        replace hr := Lib.hid hr; replace hF := Lib.hid hF; replace hu := Lib.hid hu; replace hsc := Lib.hid hsc; replace hsc2 := Lib.hid hsc2; replace hrow := Lib.hid hrow; replace hrow2 := Lib.hid hrow2; replace hML := Lib.hid hML; replace hcB := Lib.hid hcB; replace hbo := Lib.hid hbo; replace hlR := Lib.hid hlR; replace hRi' := Lib.hid hRi'; replace hQ := Lib.hid hQ
        go_wp2_with fail
        clear k1
        go_loopg [4, 7] (m + 1) (fun k v4 v7 wr => ∃ (j : Nat) (bo : Option Nat), j ≤ m ∧ k + j = m + 1 ∧ v7 = .int .i64 j ∧ Row 2 wr v4 (ML ++ if Q = true then missRow i 0 (row.take j) else []).length (pcells (ML ++ if Q = true then missRow i 0 (row.take j) else [])) bo ∧ (∀ z, bo = some z → w3.heap.size ≤ z) ∧ Fr [] w3 wr)
        case atStart => exact ⟨0, bo, by omega, by omega, rfl, by simpa [missRow] using hr.out, hbo.out, hF.out⟩
        clear hr hF hbo
        case round =>
          obtain ⟨j, bo, hj, hk2, rfl, hr, hbo, hF⟩ := hrel
          obtain ⟨wj, rfl⟩ : ∃ x : World, x = wr := ⟨_, rfl⟩
          have k1 := (hF.pt P3.out (by simp)).cell
          by_cases hjl : j < m
          · have hjlI : (j : Int) < m := by omega
            have c3 := (hF.pt hB.out (by simp)).cell i
            rw [bools_get _ _ _ hlt, ← hQ.out] at c3
            cases Q
            · as_aux_lemma =>
              rw [if_neg (by simp)] at hr
              have hr2 : Row 2 wj u4 (ML ++ if false = true then missRow i 0 (row.take (j + 1)) else []).length (pcells (ML ++ if false = true then missRow i 0 (row.take (j + 1)) else [])) bo := by rw [if_neg (by simp)]; exact hr
              replace hr := Lib.hid hr; replace hr2 := Lib.hid hr2; replace hbo := Lib.hid hbo; replace hF := Lib.hid hF
              go_wp2_with fail
              go_roundg (gk - 1)
              case measure => omega
              case rel => exact ⟨j + 1, _, by omega, by omega, by go_num, hr2.out, hbo.out, hF.out⟩
            · rw [if_pos rfl] at hr
              have hjr : j < row.length := by omega
              have hjrI : (j : Int) < row.length := by omega
              obtain ⟨B2, off2, rfl, hB2, a1, a2⟩ := hu.out j hjr
              have c1 := (F3.out.trans hF).cell (p := ⟨BB, off + i, none⟩) hBB (by simp)
              rw [hcB.out] at c1
              have c2 := (F3.out.trans hF).cell (p := ⟨B2, off2 + j * 2, none⟩) hB2 (by simp)
              rw [a1] at c2
              have htk := missRow_take i row j hjr
              obtain ⟨⟨x1, x2⟩, hx⟩ : ∃ x, row[j] = x := ⟨_, rfl⟩
              rw [hx] at c2 htk
              dsimp only at c2 htk
              have hml := missRow_len i (row.take j) 0
              have htl : (row.take j).length ≤ 12 := by rw [List.length_take]; omega
              clear a1 a2
              by_cases hneg : x1 < 0
              · as_aux_lemma =>
                rw [if_pos hneg] at htk
                obtain ⟨v', w9, bo', happ, hr9, hb9, f9⟩ := hr.addP (by rw [List.length_append]; omega) ((i : Int), (j : Int))
                rw [List.append_assoc, ← htk] at hr9
                have s3 := hF.size
                have hb9' : ∀ z, bo' = some z → w3.heap.size ≤ z := fun z hz => by
                  rcases hb9 with e | ⟨z', e, h2⟩
                  · exact hbo z (by rw [← e]; exact hz)
                  · rw [hz] at e; cases e; omega
                have G9 := hF.step f9 (fun z hz => .inr (hbo z (by simpa using hz)))
                have hr9' : Row 2 w9 v' (ML ++ if true = true then missRow i 0 (row.take (j + 1)) else []).length (pcells (ML ++ if true = true then missRow i 0 (row.take (j + 1)) else [])) bo' := by rw [if_pos rfl]; exact hr9
                obtain ⟨oz, cz, rfl⟩ := hr.len
                dsimp only at happ
                replace hr := Lib.hid hr; replace hF := Lib.hid hF; replace hbo := Lib.hid hbo; replace htk := Lib.hid htk; replace hr9 := Lib.hid hr9; replace hr9' := Lib.hid hr9'; replace hb9 := Lib.hid hb9; replace hb9' := Lib.hid hb9'; replace G9 := Lib.hid G9; replace f9 := Lib.hid f9; replace hx := Lib.hid hx; replace happ := Lib.hid happ
                go_wp2_with (first | (at_builtin; refine wpList_append_run _ rfl _ _ _ rfl rfl rfl happ.out ?_))
                go_roundg (gk - 1)
                case measure => omega
                case rel => exact ⟨j + 1, _, by omega, by omega, by go_num, hr9'.out, hb9'.out, G9.out⟩
              · as_aux_lemma =>
                rw [if_neg hneg, List.append_nil] at htk
                have hr2 : Row 2 wj u4 (ML ++ if true = true then missRow i 0 (row.take (j + 1)) else []).length (pcells (ML ++ if true = true then missRow i 0 (row.take (j + 1)) else [])) bo := by rw [if_pos rfl, htk]; exact hr
                replace hr := Lib.hid hr; replace hF := Lib.hid hF; replace hbo := Lib.hid hbo; replace htk := Lib.hid htk; replace hr2 := Lib.hid hr2; replace hx := Lib.hid hx
                go_wp2_with fail
                go_roundg (gk - 1)
                case measure => omega
                case rel => exact ⟨j + 1, _, by omega, by omega, by go_num, hr2.out, hbo.out, hF.out⟩
          · as_aux_lemma =>
            have hjlI : ¬ (j : Int) < m := by omega
            have htk : row.take j = row := List.take_of_length_le (by omega)
            rw [htk, ← hsc2.out] at hr
            replace hr := Lib.hid hr; replace hF := Lib.hid hF; replace hbo := Lib.hid hbo
            go_wp2_with fail
            go_roundg (gi - 1)
            case measure => omega
            case rel => exact ⟨i + 1, _, by omega, by omega, by go_num, hr.out, hbo.out, hF.out⟩
      · as_aux_lemma =>
        have hltI : ¬ (i : Int) < n := by omega
        obtain rfl : i = n := by omega
        have hall := rmTo_all T
        rw [hn.out] at hall
        rw [hall] at hr
        have FE := F3.out.trans hF
        have PE := hr.pinP
        replace hr := Lib.hid hr; replace hbo := Lib.hid hbo; replace hF := Lib.hid hF; replace FE := Lib.hid FE; replace PE := Lib.hid PE; replace hall := Lib.hid hall
        go_wp2_with fail
        go_ret2
        exact ⟨_, rfl, PE.out, FE.out⟩
end Go.Proofs.Ytnggimkkjdipmaa
