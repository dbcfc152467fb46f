import Derived.Test.YtnggimkkjdipmaaTB1
namespace Go.Proofs.Ytnggimkkjdipmaa
open Go.RowKit
set_option linter.unusedVariables false
set_option linter.unusedSimpArgs false
set_option maxHeartbeats 8000000
set_option maxRecDepth 20000
theorem rowOk_iff (st : Int) (r : Int × Int) : rowOk st r = true ↔ -1 ≤ r.1 ∧ r.1 < st ∧ 0 ≤ r.2 ∧ r.2 ≤ 999 ∧ (0 ≤ r.1 ∨ r.2 = 0) := by
  simp only [rowOk, Bool.and_eq_true, Bool.or_eq_true, decide_eq_true_eq, and_assoc]
theorem rowsOk_no {T : Tb} {i : Nat} (h : i < T.rows.length) (hb : ¬ ((T.rows[i].length : Int) = T.ev) ∨ ∃ (j : Nat) (hj : j < T.rows[i].length), ¬ rowOk T.st T.rows[i][j] = true) : validT T = false := by
  have : rowsOk T = false := by
    unfold rowsOk
    rw [List.all_eq_false]
    refine ⟨T.rows[i], List.getElem_mem h, ?_⟩
    rcases hb with hb | ⟨j, hj, hb⟩
    · simp [hb]
    · intro hh
      simp only [Bool.and_eq_true, List.all_eq_true] at hh
      exact hb (hh.2 _ (List.getElem_mem hj))
  unfold validT
  rw [this, Bool.and_false]
theorem valid_head (T : Tb) (r : Value) (w : World) (h : headOk T = false) (hr : ∃ o cap, r = .slice o T.rows.length cap) : Calls Try.prog 19 #[T.val r] w fun e w' => e = .returned (.bool false) ∧ Fr [] w w' := by
  obtain ⟨o, cap, rfl⟩ := hr
  obtain ⟨st, ev, sr, rows⟩ := T
  obtain ⟨n, hn⟩ : ∃ n, rows.length = n := ⟨_, rfl⟩
  have hc : st < 1 ∨ (¬ st < 1 ∧ 30 < st) ∨ (¬ st < 1 ∧ ¬ 30 < st ∧ ev < 1) ∨ (¬ st < 1 ∧ ¬ 30 < st ∧ ¬ ev < 1 ∧ 12 < ev) ∨ (¬ st < 1 ∧ ¬ 30 < st ∧ ¬ ev < 1 ∧ ¬ 12 < ev ∧ sr < 0) ∨ (¬ st < 1 ∧ ¬ 30 < st ∧ ¬ ev < 1 ∧ ¬ 12 < ev ∧ ¬ sr < 0 ∧ st ≤ sr) ∨ (¬ st < 1 ∧ ¬ 30 < st ∧ ¬ ev < 1 ∧ ¬ 12 < ev ∧ ¬ sr < 0 ∧ ¬ st ≤ sr ∧ ((n : Int) != st) = true) := by
    have h' : ¬ headOk ⟨st, ev, sr, rows⟩ = true := by rw [h]; simp
    simp only [headOk, Bool.and_eq_true, decide_eq_true_eq, hn] at h'
    simp only [bne_iff_ne]
    omega
  dsimp only [Tb.val]
  rw [hn]
  clear h hn
  have F0 : ∀ o, Fr [] w (w.alloc o) := fun o => (Fr.refl [] w).alloc o
  rcases hc with c1 | ⟨c1, c2⟩ | ⟨c1, c2, c3⟩ | ⟨c1, c2, c3, c4⟩ | ⟨c1, c2, c3, c4, c5⟩ | ⟨c1, c2, c3, c4, c5, c6⟩ | ⟨c1, c2, c3, c4, c5, c6, c7⟩
  all_goals
    go_enter Try.func19, Try.ntmps19
    go_wp2_with fail
    go_ret
    exact ⟨rfl, F0 _⟩
end Go.Proofs.Ytnggimkkjdipmaa
namespace Go.Proofs.Ytnggimkkjdipmaa
open Go.RowKit
set_option linter.unusedVariables false
set_option linter.unusedSimpArgs false
set_option maxHeartbeats 8000000
set_option maxRecDepth 20000
theorem valid_rows (T : Tb) (r : Value) (w : World) (h : headOk T = true) (hr : RIn w r T.rows) : Calls Try.prog 19 #[T.val r] w fun e w' => e = .returned (.bool (validT T)) ∧ Fr [] w w' := by
  have hyes : (∀ i (h : i < T.rows.length), (T.rows[i].length : Int) = T.ev ∧ ∀ j (hj : j < T.rows[i].length), rowOk T.st T.rows[i][j] = true) → validT T = true := fun hh => by
    unfold validT rowsOk
    rw [h, Bool.true_and, List.all_eq_true]
    intro l hl
    obtain ⟨i, hi, rfl⟩ := List.getElem_of_mem hl
    obtain ⟨h1, h2⟩ := hh i hi
    rw [decide_eq_true h1, Bool.true_and, List.all_eq_true]
    intro x hx
    obtain ⟨j, hj, rfl⟩ := List.getElem_of_mem hx
    exact h2 j hj
  have hno := fun i (hi : i < T.rows.length) => rowsOk_no (T := T) hi
  obtain ⟨V, hV⟩ : ∃ V, validT T = V := ⟨_, rfl⟩
  rw [hV] at hyes
  simp only [hV] at hno
  rw [hV]
  clear hV
  obtain ⟨st, ev, sr, rows⟩ := T
  dsimp only [Tb.val] at hr hyes hno ⊢
  obtain ⟨o, cap, rfl, hl⟩ := hr
  have hh : ¬ st < 1 ∧ ¬ 30 < st ∧ ¬ ev < 1 ∧ ¬ 12 < ev ∧ ¬ sr < 0 ∧ ¬ st ≤ sr ∧ ((rows.length : Int) != st) = false := by
    simp only [headOk, Bool.and_eq_true, decide_eq_true_eq] at h
    simp only [bne_eq_false_iff_eq]
    omega
  obtain ⟨c1, c2, c3, c4, c5, c6, c7⟩ := hh
  clear h
  obtain ⟨w0, hw0⟩ : ∃ x, w.alloc (.cells #[.int .i64 st, .int .i64 ev, .int .i64 sr, .slice o rows.length cap] TTab) = x := ⟨_, rfl⟩
  have P0 := Pt.newA w TTab #[.int .i64 st, .int .i64 ev, .int .i64 sr, .slice o rows.length cap]
  rw [hw0] at P0
  have F0 : Fr [] w w0 := by rw [← hw0]; exact (Fr.refl [] w).alloc _
  obtain ⟨bt, hbt⟩ : ∃ x, w.heap.size = x := ⟨_, rfl⟩
  rw [hbt] at P0
  have k0 := P0.cell
  have hlen : rows.length ≤ 30 := by simp only [bne_eq_false_iff_eq] at c7; omega
  replace hl := Lib.hid hl; replace P0 := Lib.hid P0; replace F0 := Lib.hid F0; replace hyes := Lib.hid hyes; replace hno := Lib.hid hno
  go_enter Try.func19, Try.ntmps19
  go_wp2_with fail
  clear hw0 k0
  go_loopg [48] (rows.length + 1) (fun k v wr => ∃ i : Nat, i ≤ rows.length ∧ k + i = rows.length + 1 ∧ v = .int .i64 i ∧ Fr [] w0 wr ∧ ∀ i' (h : i' < rows.length), i' < i → (rows[i'].length : Int) = ev ∧ ∀ j (hj : j < rows[i'].length), rowOk st rows[i'][j] = true)
  case atStart => exact ⟨0, by omega, by omega, rfl, Fr.refl _ _, by omega⟩
  case round =>
    obtain ⟨i, hi, hk, rfl, hF, hok⟩ := hrel
    by_cases hlt : i < rows.length
    · have hltI : (i : Int) < rows.length := by omega
      obtain ⟨B, off, u, rfl, hB, hc, hu⟩ := hl.out i hlt
      have hc' := (F0.out.trans hF).cell (p := ⟨B, off + i, none⟩) hB (by simp)
      rw [hc] at hc'
      obtain ⟨l, hle⟩ : ∃ l, rows[i] = l := ⟨_, rfl⟩
      have no1 := hno.out i hlt
      rw [hle] at hu no1
      have hok' : ((l.length : Int) = ev ∧ ∀ j (hj : j < l.length), rowOk st l[j] = true) → ∀ i' (h : i' < rows.length), i' < i + 1 → (rows[i'].length : Int) = ev ∧ ∀ j (hj : j < rows[i'].length), rowOk st rows[i'][j] = true := fun hh i' h' hlt' => by
        rcases (by omega : i' < i ∨ i' = i) with e | rfl
        · exact hok i' h' e
        · rw [hle]; exact hh
      replace hok := Lib.hid hok; replace hok' := Lib.hid hok'; replace hle := Lib.hid hle; replace no1 := Lib.hid no1
      obtain ⟨o2, cap2, rfl, hu⟩ := hu
      have kr := (hF.pt P0.out (by simp)).cell
      by_cases hlen2 : (l.length : Int) = ev
      · have hne : ((l.length : Int) != ev) = false := by simp [hlen2]
        replace hlen2 := Lib.hid hlen2
        replace hu := Lib.hid hu
        replace hF := Lib.hid hF
        obtain ⟨wo, rfl⟩ : ∃ wo : World, wo = wr := ⟨_, rfl⟩
        clear hc hbt
        obtain ⟨gq, rfl⟩ : ∃ g : Nat, g = gk := ⟨_, rfl⟩
        go_wp2_with fail
        have lle : l.length ≤ 12 := by have := hlen2.out; omega
        clear kr hc'
        go_loopg [59] (l.length + 1) (fun k v wi => ∃ j : Nat, j ≤ l.length ∧ k + j = l.length + 1 ∧ v = .int .i64 j ∧ Fr [] wo wi ∧ ∀ j' (h : j' < l.length), j' < j → rowOk st l[j'] = true)
        case atStart => exact ⟨0, by omega, by omega, rfl, Fr.refl _ _, by omega⟩
        case round =>
          obtain ⟨j, hj, hk2, rfl, hFi, hokj⟩ := hrel
          by_cases hltj : j < l.length
          · have hltJ : (j : Int) < l.length := by omega
            obtain ⟨B2, off2, rfl, hB2, ha, hb⟩ := hu.out j hltj
            obtain ⟨x, hx⟩ : ∃ x, l[j] = x := ⟨_, rfl⟩
            rw [hx] at ha hb
            have FF := (F0.out.trans hF.out).trans hFi
            obtain ⟨x1, x2⟩ := x
            have ha' := FF.cell (p := ⟨B2, off2 + j * 2, none⟩) hB2 (by simp)
            have hb' := FF.cell (p := ⟨B2, off2 + j * 2 + 1, none⟩) hB2 (by simp)
            rw [ha] at ha'
            rw [hb] at hb'
            dsimp only at ha' hb'
            have Pi := hFi.pt (hF.out.pt P0.out (by simp)) (by simp)
            have ki := Pi.cell
            have lbt := Pi.lt
            replace Pi := Lib.hid Pi
            have FN : Fr [] wo (wr.alloc (.cells #[.int .i64 x1, .int .i64 x2] TRow)) := hFi.alloc _
            have FR : Fr [] w (wr.alloc (.cells #[.int .i64 x1, .int .i64 x2] TRow)) := (F0.out.trans hF.out).trans FN
            have bad : ¬ rowOk st (x1, x2) = true → Ending.returned (.bool false) = Ending.returned (.bool V) := fun hn => ret_b (no1.out (.inr ⟨j, hltj, by rw [hx]; exact hn⟩)).symm
            have good : rowOk st (x1, x2) = true → ∀ j' (h : j' < l.length), j' < j + 1 → rowOk st l[j'] = true := fun hg j' h' hlt' => by
              rcases (by omega : j' < j ∨ j' = j) with e | rfl
              · exact hokj j' h' e
              · rw [hx]; exact hg
            simp only [rowOk_iff] at bad
            replace good := fun h => good ((rowOk_iff _ _).mpr h)
            dsimp only at good
            replace bad := Lib.hid bad; replace good := Lib.hid good; replace FN := Lib.hid FN; replace FR := Lib.hid FR; replace hokj := Lib.hid hokj; replace hFi := Lib.hid hFi
            clear ha hb hx FF
            rcases (by omega : x1 < -1 ∨ (¬ x1 < -1 ∧ st ≤ x1) ∨ (¬ x1 < -1 ∧ ¬ st ≤ x1 ∧ x2 < 0) ∨ (¬ x1 < -1 ∧ ¬ st ≤ x1 ∧ ¬ x2 < 0 ∧ 999 < x2) ∨ (¬ x1 < -1 ∧ ¬ st ≤ x1 ∧ ¬ x2 < 0 ∧ ¬ 999 < x2 ∧ x1 < 0 ∧ ¬ x2 = 0) ∨ (¬ x1 < -1 ∧ ¬ st ≤ x1 ∧ ¬ x2 < 0 ∧ ¬ 999 < x2 ∧ x1 < 0 ∧ x2 = 0) ∨ (¬ x1 < -1 ∧ ¬ st ≤ x1 ∧ ¬ x2 < 0 ∧ ¬ 999 < x2 ∧ ¬ x1 < 0)) with d1 | ⟨d1, d2⟩ | ⟨d1, d2, d3⟩ | ⟨d1, d2, d3, d4⟩ | ⟨d1, d2, d3, d4, d5, d6⟩ | ⟨d1, d2, d3, d4, d5, d6⟩ | ⟨d1, d2, d3, d4, d5⟩
            · go_wp2_with fail
              go_ret
              exact ⟨bad.out (by omega), FR.out⟩
            · go_wp2_with fail
              go_ret
              exact ⟨bad.out (by omega), FR.out⟩
            · go_wp2_with fail
              go_ret
              exact ⟨bad.out (by omega), FR.out⟩
            · go_wp2_with fail
              go_ret
              exact ⟨bad.out (by omega), FR.out⟩
            · have d7 : (x2 != 0) = true := by simpa using d6
              go_wp2_with fail
              go_ret
              exact ⟨bad.out (by omega), FR.out⟩
            · have gg := Lib.hid (good.out ⟨by omega, by omega, by omega, by omega, .inr d6⟩)
              subst d6
              go_wp2_with fail
              go_roundg (gk - 1)
              case measure => omega
              case rel => exact ⟨j + 1, by omega, by omega, by go_num, FN.out, gg.out⟩
            · go_wp2_with fail
              go_roundg (gk - 1)
              case measure => omega
              case rel => exact ⟨j + 1, by omega, by omega, by go_num, FN.out, good.out (by omega)⟩
          · have hltJ : ¬ (j : Int) < l.length := by omega
            have hjl : j = l.length := by omega
            have all : ∀ j (hj : j < l.length), rowOk st l[j] = true := fun j' h' => hokj j' h' (by have h2 : j' < l.length := h'; omega)
            have nx := hok'.out ⟨hlen2.out, all⟩
            have FN : Fr [] w0 wr := hF.out.trans hFi
            replace nx := Lib.hid nx; replace FN := Lib.hid FN; replace hokj := Lib.hid hokj; replace all := Lib.hid all
            clear hjl
            go_wp2_with fail
            go_roundg (gq - 1)
            case measure => omega
            case rel => exact ⟨i + 1, by omega, by omega, by go_num, FN.out, nx.out⟩
      · have hne : ((l.length : Int) != ev) = true := by simpa using hlen2
        have FR := F0.out.trans hF
        replace FR := Lib.hid FR
        go_wp2_with fail
        go_ret
        exact ⟨ret_b (no1.out (.inl hlen2)).symm, FR.out⟩
    · have hltI : ¬ (i : Int) < rows.length := by omega
      have res := hyes.out fun i' h' => hok i' h' (by have h2 : i' < rows.length := h'; omega)
      have FR := F0.out.trans hF
      replace FR := Lib.hid FR
      replace hok := Lib.hid hok
      replace res := Lib.hid res
      go_wp2_with fail
      go_ret
      exact ⟨ret_b res.out.symm, FR.out⟩
theorem valid_any (T : Tb) (v : Value) (w : World) (h : TIn w v T) : Calls Try.prog 19 #[v] w fun e w' => e = .returned (.bool (validT T)) ∧ Fr [] w w' := by
  obtain ⟨r, rfl, hr⟩ := h
  cases hh : headOk T
  · refine (valid_head T r w hh ?_).mono fun e w' ⟨he, hf⟩ => ⟨he.trans (ret_b ?_), hf⟩
    · obtain ⟨o, cap, h1, _⟩ := hr
      exact ⟨o, cap, h1⟩
    · unfold validT; rw [hh, Bool.false_and]
  · exact valid_rows T r w hh hr
end Go.Proofs.Ytnggimkkjdipmaa
namespace Go.Proofs.Ytnggimkkjdipmaa
open Go.RowKit
set_option linter.unusedVariables false
set_option linter.unusedSimpArgs false
set_option maxHeartbeats 8000000
set_option maxRecDepth 20000
theorem rvalid_head (T : Tb) (r : Value) (w : World) (h : headOk T = false) (hr : ∃ o cap, r = .slice o T.rows.length cap) : Calls Try.prog 20 #[T.val r] w fun e w' => e = .returned (.bool false) ∧ Fr [] w w' := by
  obtain ⟨o, cap, rfl⟩ := hr
  obtain ⟨st, ev, sr, rows⟩ := T
  obtain ⟨n, hn⟩ : ∃ n, rows.length = n := ⟨_, rfl⟩
  have hc : st < 1 ∨ (¬ st < 1 ∧ 30 < st) ∨ (¬ st < 1 ∧ ¬ 30 < st ∧ ev < 1) ∨ (¬ st < 1 ∧ ¬ 30 < st ∧ ¬ ev < 1 ∧ 12 < ev) ∨ (¬ st < 1 ∧ ¬ 30 < st ∧ ¬ ev < 1 ∧ ¬ 12 < ev ∧ sr < 0) ∨ (¬ st < 1 ∧ ¬ 30 < st ∧ ¬ ev < 1 ∧ ¬ 12 < ev ∧ ¬ sr < 0 ∧ st ≤ sr) ∨ (¬ st < 1 ∧ ¬ 30 < st ∧ ¬ ev < 1 ∧ ¬ 12 < ev ∧ ¬ sr < 0 ∧ ¬ st ≤ sr ∧ ((n : Int) != st) = true) := by
    have h' : ¬ headOk ⟨st, ev, sr, rows⟩ = true := by rw [h]; simp
    simp only [headOk, Bool.and_eq_true, decide_eq_true_eq, hn] at h'
    simp only [bne_iff_ne]
    omega
  dsimp only [Tb.val]
  rw [hn]
  clear h hn
  have F0 : ∀ o, Fr [] w (w.alloc o) := fun o => (Fr.refl [] w).alloc o
  rcases hc with c1 | ⟨c1, c2⟩ | ⟨c1, c2, c3⟩ | ⟨c1, c2, c3, c4⟩ | ⟨c1, c2, c3, c4, c5⟩ | ⟨c1, c2, c3, c4, c5, c6⟩ | ⟨c1, c2, c3, c4, c5, c6, c7⟩
  all_goals
    go_enter Try.func20, Try.ntmps20
    go_wp2_with fail
    go_ret
    exact ⟨rfl, F0 _⟩
theorem rvalid_rows (T : Tb) (r : Value) (w : World) (h : headOk T = true) (hr : RIn w r T.rows) : Calls Try.prog 20 #[T.val r] w fun e w' => e = .returned (.bool (validT T)) ∧ Fr [] w w' := by
  have hyes : (∀ i (h : i < T.rows.length), (T.rows[i].length : Int) = T.ev ∧ ∀ j (hj : j < T.rows[i].length), rowOk T.st T.rows[i][j] = true) → validT T = true := fun hh => by
    unfold validT rowsOk
    rw [h, Bool.true_and, List.all_eq_true]
    intro l hl
    obtain ⟨i, hi, rfl⟩ := List.getElem_of_mem hl
    obtain ⟨h1, h2⟩ := hh i hi
    rw [decide_eq_true h1, Bool.true_and, List.all_eq_true]
    intro x hx
    obtain ⟨j, hj, rfl⟩ := List.getElem_of_mem hx
    exact h2 j hj
  have hno := fun i (hi : i < T.rows.length) => rowsOk_no (T := T) hi
  obtain ⟨V, hV⟩ : ∃ V, validT T = V := ⟨_, rfl⟩
  rw [hV] at hyes
  simp only [hV] at hno
  rw [hV]
  clear hV
  obtain ⟨st, ev, sr, rows⟩ := T
  dsimp only [Tb.val] at hr hyes hno ⊢
  obtain ⟨o, cap, rfl, hl⟩ := hr
  have hh : ¬ st < 1 ∧ ¬ 30 < st ∧ ¬ ev < 1 ∧ ¬ 12 < ev ∧ ¬ sr < 0 ∧ ¬ st ≤ sr ∧ ((rows.length : Int) != st) = false := by
    simp only [headOk, Bool.and_eq_true, decide_eq_true_eq] at h
    simp only [bne_eq_false_iff_eq]
    omega
  obtain ⟨c1, c2, c3, c4, c5, c6, c7⟩ := hh
  clear h
  obtain ⟨w0, hw0⟩ : ∃ x, w.alloc (.cells #[.int .i64 st, .int .i64 ev, .int .i64 sr, .slice o rows.length cap] RTab) = x := ⟨_, rfl⟩
  have P0 := Pt.newA w RTab #[.int .i64 st, .int .i64 ev, .int .i64 sr, .slice o rows.length cap]
  rw [hw0] at P0
  have F0 : Fr [] w w0 := by rw [← hw0]; exact (Fr.refl [] w).alloc _
  obtain ⟨bt, hbt⟩ : ∃ x, w.heap.size = x := ⟨_, rfl⟩
  rw [hbt] at P0
  have k0 := P0.cell
  have hst : (rows.length : Int) = st := by simpa using c7
  have hlen : rows.length ≤ 30 := by simp only [bne_eq_false_iff_eq] at c7; omega
  replace hst := Lib.hid hst; replace hl := Lib.hid hl; replace P0 := Lib.hid P0; replace F0 := Lib.hid F0; replace hyes := Lib.hid hyes; replace hno := Lib.hid hno
  go_enter Try.func20, Try.ntmps20
  go_wp2_with fail
  clear hw0 k0
  go_loopg [3] (rows.length + 1) (fun k v wr => ∃ i : Nat, i ≤ rows.length ∧ k + i = rows.length + 1 ∧ v = .int .i64 i ∧ Fr [] w0 wr ∧ ∀ i' (h : i' < rows.length), i' < i → (rows[i'].length : Int) = ev ∧ ∀ j (hj : j < rows[i'].length), rowOk st rows[i'][j] = true)
  case atStart => exact ⟨0, by omega, by omega, rfl, Fr.refl _ _, by omega⟩
  case round =>
    obtain ⟨i, hi, hk, rfl, hF, hok⟩ := hrel
    by_cases hlt : i < rows.length
    · have hltI : (i : Int) < rows.length := by omega
      have hltS : decide ((i : Int) < st) = true := by rw [← hst.out]; simpa using hlt
      obtain ⟨B, off, u, rfl, hB, hc, hu⟩ := hl.out i hlt
      have hc' := (F0.out.trans hF).cell (p := ⟨B, off + i, none⟩) hB (by simp)
      rw [hc] at hc'
      obtain ⟨l, hle⟩ : ∃ l, rows[i] = l := ⟨_, rfl⟩
      have no1 := hno.out i hlt
      rw [hle] at hu no1
      have hok' : ((l.length : Int) = ev ∧ ∀ j (hj : j < l.length), rowOk st l[j] = true) → ∀ i' (h : i' < rows.length), i' < i + 1 → (rows[i'].length : Int) = ev ∧ ∀ j (hj : j < rows[i'].length), rowOk st rows[i'][j] = true := fun hh i' h' hlt' => by
        rcases (by omega : i' < i ∨ i' = i) with e | rfl
        · exact hok i' h' e
        · rw [hle]; exact hh
      replace hok := Lib.hid hok; replace hok' := Lib.hid hok'; replace hle := Lib.hid hle; replace no1 := Lib.hid no1
      obtain ⟨o2, cap2, rfl, hu⟩ := hu
      have kr := (hF.pt P0.out (by simp)).cell
      by_cases hlen2 : (l.length : Int) = ev
      · have hne : ((l.length : Int) != ev) = false := by simp [hlen2]
        replace hlen2 := Lib.hid hlen2
        replace hu := Lib.hid hu
        replace hF := Lib.hid hF
        obtain ⟨wo, rfl⟩ : ∃ wo : World, wo = wr := ⟨_, rfl⟩
        clear hbt
        have HC := Lib.hid hc
        clear hc
        obtain ⟨gq, rfl⟩ : ∃ g : Nat, g = gk := ⟨_, rfl⟩
        go_wp2_with fail
        go_quiet (fail)
        go_wp2_with fail
        have lle : l.length ≤ 12 := by have := hlen2.out; omega
        clear kr hc'
        go_loopg [4] (l.length + 1) (fun k v wi => ∃ j : Nat, j ≤ l.length ∧ k + j = l.length + 1 ∧ v = .int .i64 j ∧ Fr [] wo wi ∧ ∀ j' (h : j' < l.length), j' < j → rowOk st l[j'] = true)
        case atStart => exact ⟨0, by omega, by omega, rfl, (Fr.refl _ _).drewN _, by omega⟩
        case round =>
          obtain ⟨j, hj, hk2, rfl, hFi, hokj⟩ := hrel
          by_cases hltj : j < l.length
          · have hltJ : (j : Int) < l.length := by omega
            have hltE : decide ((j : Int) < ev) = true := by rw [← hlen2.out]; simpa using hltj
            obtain ⟨B2, off2, rfl, hB2, ha, hb⟩ := hu.out j hltj
            obtain ⟨x, hx⟩ : ∃ x, l[j] = x := ⟨_, rfl⟩
            rw [hx] at ha hb
            have FF := (F0.out.trans hF.out).trans hFi
            obtain ⟨x1, x2⟩ := x
            have hci := FF.cell (p := ⟨B, off + i, none⟩) hB (by simp)
            rw [HC.out] at hci
            have ha' := FF.cell (p := ⟨B2, off2 + j * 2, none⟩) hB2 (by simp)
            have hb' := FF.cell (p := ⟨B2, off2 + j * 2 + 1, none⟩) hB2 (by simp)
            rw [ha] at ha'
            rw [hb] at hb'
            dsimp only at ha' hb'
            have Pi := hFi.pt (hF.out.pt P0.out (by simp)) (by simp)
            have ki := Pi.cell
            have lbt := Pi.lt
            replace Pi := Lib.hid Pi
            have FN : Fr [] wo (wr.alloc (.cells #[.int .i64 x1, .int .i64 x2] RRow)) := hFi.alloc _
            have FR : Fr [] w (wr.alloc (.cells #[.int .i64 x1, .int .i64 x2] RRow)) := (F0.out.trans hF.out).trans FN
            have bad : ¬ rowOk st (x1, x2) = true → Ending.returned (.bool false) = Ending.returned (.bool V) := fun hn => ret_b (no1.out (.inr ⟨j, hltj, by rw [hx]; exact hn⟩)).symm
            have good : rowOk st (x1, x2) = true → ∀ j' (h : j' < l.length), j' < j + 1 → rowOk st l[j'] = true := fun hg j' h' hlt' => by
              rcases (by omega : j' < j ∨ j' = j) with e | rfl
              · exact hokj j' h' e
              · rw [hx]; exact hg
            simp only [rowOk_iff] at bad
            replace good := fun h => good ((rowOk_iff _ _).mpr h)
            dsimp only at good
            replace bad := Lib.hid bad; replace good := Lib.hid good; replace FN := Lib.hid FN; replace FR := Lib.hid FR; replace hokj := Lib.hid hokj; replace hFi := Lib.hid hFi
            clear ha hb hx FF
            rcases (by omega : x1 < -1 ∨ (¬ x1 < -1 ∧ st ≤ x1) ∨ (¬ x1 < -1 ∧ ¬ st ≤ x1 ∧ x2 < 0) ∨ (¬ x1 < -1 ∧ ¬ st ≤ x1 ∧ ¬ x2 < 0 ∧ 999 < x2) ∨ (¬ x1 < -1 ∧ ¬ st ≤ x1 ∧ ¬ x2 < 0 ∧ ¬ 999 < x2 ∧ x1 < 0 ∧ ¬ x2 = 0) ∨ (¬ x1 < -1 ∧ ¬ st ≤ x1 ∧ ¬ x2 < 0 ∧ ¬ 999 < x2 ∧ x1 < 0 ∧ x2 = 0) ∨ (¬ x1 < -1 ∧ ¬ st ≤ x1 ∧ ¬ x2 < 0 ∧ ¬ 999 < x2 ∧ ¬ x1 < 0)) with d1 | ⟨d1, d2⟩ | ⟨d1, d2, d3⟩ | ⟨d1, d2, d3, d4⟩ | ⟨d1, d2, d3, d4, d5, d6⟩ | ⟨d1, d2, d3, d4, d5, d6⟩ | ⟨d1, d2, d3, d4, d5⟩
            · go_wp2_with fail
              go_ret
              exact ⟨bad.out (by omega), FR.out⟩
            · go_wp2_with fail
              go_ret
              exact ⟨bad.out (by omega), FR.out⟩
            · go_wp2_with fail
              go_ret
              exact ⟨bad.out (by omega), FR.out⟩
            · go_wp2_with fail
              go_ret
              exact ⟨bad.out (by omega), FR.out⟩
            · have d7 : (x2 != 0) = true := by simpa using d6
              go_wp2_with fail
              go_ret
              exact ⟨bad.out (by omega), FR.out⟩
            · have gg := Lib.hid (good.out ⟨by omega, by omega, by omega, by omega, .inr d6⟩)
              subst d6
              go_wp2_with fail
              go_roundg (gk - 1)
              case measure => omega
              case rel => exact ⟨j + 1, by omega, by omega, by go_num, FN.out, gg.out⟩
            · go_wp2_with fail
              go_roundg (gk - 1)
              case measure => omega
              case rel => exact ⟨j + 1, by omega, by omega, by go_num, FN.out, good.out (by omega)⟩
          · have hltJ : ¬ (j : Int) < l.length := by omega
            have hltE : decide ((j : Int) < ev) = false := by rw [← hlen2.out]; simpa using hltj
            have Pi := hFi.pt (hF.out.pt P0.out (by simp)) (by simp)
            have ki := Pi.cell
            replace Pi := Lib.hid Pi
            have hjl : j = l.length := by omega
            have all : ∀ j (hj : j < l.length), rowOk st l[j] = true := fun j' h' => hokj j' h' (by have h2 : j' < l.length := h'; omega)
            have nx := hok'.out ⟨hlen2.out, all⟩
            have FN : Fr [] w0 wr := hF.out.trans hFi
            replace nx := Lib.hid nx; replace FN := Lib.hid FN; replace hokj := Lib.hid hokj; replace all := Lib.hid all
            clear hjl
            go_wp2_with fail
            go_roundg (gq - 1)
            case measure => omega
            case rel => exact ⟨i + 1, by omega, by omega, by go_num, FN.out, nx.out⟩
      · have hne : ((l.length : Int) != ev) = true := by simpa using hlen2
        have FR := F0.out.trans hF
        replace FR := Lib.hid FR
        go_wp2_with fail
        go_quiet (fail)
        go_wp2_with fail
        go_ret
        exact ⟨ret_b (no1.out (.inl hlen2)).symm, FR.out.drewN _⟩
    · have hltI : ¬ (i : Int) < rows.length := by omega
      have hltS : decide ((i : Int) < st) = false := by rw [← hst.out]; simpa using hlt
      have kr := (hF.pt P0.out (by simp)).cell
      have res := hyes.out fun i' h' => hok i' h' (by have h2 : i' < rows.length := h'; omega)
      have FR := F0.out.trans hF
      replace FR := Lib.hid FR
      replace hok := Lib.hid hok
      replace res := Lib.hid res
      go_wp2_with fail
      go_ret
      exact ⟨ret_b res.out.symm, FR.out⟩
theorem rvalid_any (T : Tb) (v : Value) (w : World) (h : TIn w v T) : Calls Try.prog 20 #[v] w fun e w' => e = .returned (.bool (validT T)) ∧ Fr [] w w' := by
  obtain ⟨r, rfl, hr⟩ := h
  cases hh : headOk T
  · refine (rvalid_head T r w hh ?_).mono fun e w' ⟨he, hf⟩ => ⟨he.trans (ret_b ?_), hf⟩
    · obtain ⟨o, cap, h1, _⟩ := hr
      exact ⟨o, cap, h1⟩
    · unfold validT; rw [hh, Bool.false_and]
  · exact rvalid_rows T r w hh hr
end Go.Proofs.Ytnggimkkjdipmaa
