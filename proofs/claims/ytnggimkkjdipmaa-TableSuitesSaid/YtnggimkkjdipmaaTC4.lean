import Derived.Test.YtnggimkkjdipmaaTC1
import Derived.Test.YtnggimkkjdipmaaTB26
import Derived.Test.YtnggimkkjdipmaaSortSh
namespace Go.Proofs.Ytnggimkkjdipmaa
open Go.RowKit
set_option linter.unusedVariables false
set_option linter.unusedSimpArgs false
set_option maxHeartbeats 16000000
set_option maxRecDepth 100000
/-! ### slices.Sort, of a row of the call's own -/
theorem sort_any (l : List Int) (v : Value) (b : Nat) (w : World) (hr : Row 1 w v l.length (ints l) (some b)) (hn : l.length ≤ 1000) :
    Calls Try.prog 91 #[v] w fun e w' => e = .returned (.tuple #[]) ∧ NInB (fun z => z = b) w' v (l.mergeSort fun x y => decide (x ≤ y)) ∧ Fr [b] w w' := by
  rcases hr with ⟨h, _⟩ | ⟨b', off, cap, hb, rfl, h3, h4, h5, h6, h7⟩
  · cases h
  · cases hb
    have hH : Sort.Holds (Value.int .i64) w b off l.toArray := fun j hj => by
      have hj' : j < l.length := by simpa using hj
      refine ⟨?_, (h6 j (by omega)).2⟩
      rw [h7 j (by omega)]
      simp [ints, hj']
    refine (Try.slices_Sort_int b off cap l w hH h4 (by omega)).mono ?_
    rintro e w' ⟨rfl, n, os, rfl⟩
    have hs : (l.mergeSort fun x y => decide (x ≤ y)).length = l.length := List.length_mergeSort _
    have hp : (Sort.putRow (Value.int .i64) (Sort.ahead w n) b off (l.mergeSort fun x y => decide (x ≤ y)).toArray).heap.size = w.heap.size := by
      simp [Sort.putRow, Sort.mapBlock, Sort.ahead]
    refine ⟨rfl, ⟨some ⟨b, off, none⟩, cap, by rw [hs], fun i hi => ⟨b, off, rfl, ?_, rfl, ?_⟩⟩, ?_⟩
    · simp only [Sort.grow, Array.size_append, hp]; omega
    · rw [Sort.cell?_grow _ _ _ (by rw [hp]; exact h4), Sort.cell?_putRow (Value.int .i64) (Sort.ahead w n) b off l.toArray _ (Sort.holds_ahead _ _ _ _ _ _ hH) (by simp) i (by simpa using hi)]
      simp
      rw [List.getElem?_eq_getElem hi]; rfl
    · refine ⟨rfl, rfl, rfl, by simp only [Sort.grow, Array.size_append, hp]; omega, fun k hk hx => ?_⟩
      rw [Sort.heap_grow_old _ _ (by rw [hp]; exact hk)]
      simp at hx
      simp [Sort.putRow, Sort.mapBlock, Sort.ahead, Array.getElem?_modify, Ne.symm hx]
end Go.Proofs.Ytnggimkkjdipmaa
namespace Go.Proofs.Ytnggimkkjdipmaa
open Go.RowKit
set_option linter.unusedVariables false
set_option linter.unusedSimpArgs false
set_option maxHeartbeats 16000000
set_option maxRecDepth 100000
theorem sort_reach {T : Tb} (hT : VT T) : ((orderT T).mergeSort fun x y => decide (x ≤ y)) = reachL T := by
  refine sorted_eq _ _ ?_ (reachL_sorted T) (fun x => by rw [List.mem_mergeSort, reachL_mem hT])
  have h1 := List.pairwise_mergeSort (le := fun x y : Int => decide (x ≤ y)) (fun a b c h1 h2 => by simp at *; omega) (fun a b => by simp; omega) (orderT T)
  have h2 : ((orderT T).mergeSort fun x y => decide (x ≤ y)).Nodup := (List.mergeSort_perm _ _).nodup_iff.mpr (order_ok hT).nd
  refine (h1.and h2).imp ?_
  rintro a b ⟨h3, h4⟩
  simp at h3
  omega
theorem reach_fresh (T : Tb) (v : Value) (w : World) (hT : TIn w v T) (hV : VT T) :
    Calls Try.prog 68 #[v] w fun e w' => ∃ ov, e = .returned ov ∧ NInB (fun z => w.heap.size ≤ z) w' ov (reachL T) ∧ Fr [] w w' := by
  obtain ⟨r, rfl, hR⟩ := hT
  rw [show T.val r = .agg #[.int .i64 T.st, .int .i64 T.ev, .int .i64 T.sr, r] from rfl]
  obtain ⟨w1, hw1⟩ : ∃ x, w.alloc (.cells #[.int .i64 T.st, .int .i64 T.ev, .int .i64 T.sr, r] TTab) = x := ⟨_, rfl⟩
  have P1 := Pt.newA w TTab #[.int .i64 T.st, .int .i64 T.ev, .int .i64 T.sr, r]
  rw [hw1] at P1
  have F1 : Fr [] w w1 := by rw [← hw1]; exact (Fr.refl [] w).alloc _
  obtain ⟨b1, hb1⟩ : ∃ x, w.heap.size = x := ⟨_, rfl⟩
  rw [hb1] at P1
  have k1 := P1.cell
  have WK := walk_any T _ w1 ⟨r, rfl, hR.fr F1⟩ hV
  have hO := order_ok hV
  have hso := sort_reach hV
  have hl30 : (orderT T).length ≤ 1000 := by have := hO.len; have := hV.st; omega
  replace P1 := Lib.hid P1; replace F1 := Lib.hid F1; replace WK := Lib.hid WK; replace hO := Lib.hid hO; replace hso := Lib.hid hso; replace hV := Lib.hid hV; replace hR := Lib.hid hR
  go_enter Try.func68, Try.ntmps68
  go_wp2_with fail
  refine WK.out.mono ?_
  rintro e w2 ⟨r', bt, bm, ov, bo, M, rfl, hI, hW⟩
  have hne : bo ≠ none := by
    rintro rfl
    rcases hI.ord with ⟨_, h2, _⟩ | ⟨b, _, _, hb, _⟩
    · obtain ⟨t, ht⟩ := hO.out.hd
      have : (orderT T).length = 0 := by simpa [orderT] using h2
      rw [ht] at this; simp at this
    · cases hb
  obtain ⟨b2, rfl⟩ : ∃ b, bo = some b := Option.ne_none_iff_exists'.mp hne
  have SO := sort_any (orderT T) ov b2 w2 hI.ord hl30
  rw [hso.out] at SO
  have hgt := hI.out b2 rfl
  have hgw := hI.gw
  have F2 := F1.out.trans hI.fr
  obtain ⟨o2, c2, hov⟩ : ∃ o c, ov = .slice o (orderT T).length c := by
    obtain ⟨o, c, e⟩ := hI.ord.len
    exact ⟨o, c, e⟩
  subst hov
  obtain ⟨n2, hn2⟩ : ∃ n, (orderT T).length = n := ⟨_, rfl⟩
  rw [hn2] at SO ⊢
  replace SO := Lib.hid SO; replace hI := Lib.hid hI; replace hW := Lib.hid hW; replace F2 := Lib.hid F2; replace hn2 := Lib.hid hn2
  clear k1 hw1 hne
  go_wp2_with fail
  refine SO.out.mono ?_
  rintro e w3 ⟨rfl, hN, f3⟩
  have F3 : Fr [] w w3 := F2.out.step f3 (fun z hz => .inr (by simp at hz; have := F1.out.size; omega))
  have hN' := hN.frq (Fr.refl [] w3) (q' := fun z => w.heap.size ≤ z) (fun b _ hq => ⟨by simp, by have := F1.out.size; omega⟩)
  replace hN := Lib.hid hN; replace hN' := Lib.hid hN'; replace F3 := Lib.hid F3; replace f3 := Lib.hid f3
  go_wp2_with fail
  go_ret
  exact ⟨_, rfl, hN'.out, F3.out⟩
theorem reach_any (T : Tb) (v : Value) (w : World) (hT : TIn w v T) (hV : VT T) :
    Calls Try.prog 68 #[v] w fun e w' => ∃ ov, e = .returned ov ∧ NIn w' ov (reachL T) ∧ Fr [] w w' :=
  (reach_fresh T v w hT hV).mono fun e w' ⟨ov, h1, h2, h3⟩ => ⟨ov, h1, h2.nin, h3⟩
end Go.Proofs.Ytnggimkkjdipmaa
namespace Go.Proofs.Ytnggimkkjdipmaa
open Go.RowKit
set_option linter.unusedVariables false
set_option linter.unusedSimpArgs false
set_option maxHeartbeats 16000000
set_option maxRecDepth 100000
theorem Reach_any (T : Tb) (v : Value) (w : World) (hT : TIn w v T) :
    Calls Try.prog 33 #[v] w fun e w' => ∃ ov, e = .returned (.tuple #[ov, .int .i64 (reachF T).2]) ∧ NIn w' ov (reachF T).1 ∧ Fr [] w w' := by
  obtain ⟨r, rfl, hR⟩ := hT
  rw [show T.val r = .agg #[.int .i64 T.st, .int .i64 T.ev, .int .i64 T.sr, r] from rfl]
  have VA : ∀ W, Fr [] w W → Calls Try.prog 19 #[.agg #[.int .i64 T.st, .int .i64 T.ev, .int .i64 T.sr, r]] W fun e w' => e = .returned (.bool (validT T)) ∧ Fr [] W w' := fun W f => valid_any T _ W ⟨r, rfl, hR.fr f⟩
  obtain ⟨w1, hw1⟩ : ∃ x, w.alloc (.cells #[.int .i64 T.st, .int .i64 T.ev, .int .i64 T.sr, r] TTab) = x := ⟨_, rfl⟩
  have P1 := Pt.newA w TTab #[.int .i64 T.st, .int .i64 T.ev, .int .i64 T.sr, r]
  rw [hw1] at P1
  have F1 : Fr [] w w1 := by rw [← hw1]; exact (Fr.refl [] w).alloc _
  obtain ⟨b1, hb1⟩ : ∃ x, w.heap.size = x := ⟨_, rfl⟩
  rw [hb1] at P1
  have k1 := P1.cell
  replace P1 := Lib.hid P1; replace F1 := Lib.hid F1; replace VA := Lib.hid VA; replace hR := Lib.hid hR
  obtain ⟨⟨X, z⟩, hX⟩ : ∃ x, reachF T = x := ⟨_, rfl⟩
  rw [hX]
  dsimp only
  replace hX := Lib.hid hX
  go_enter Try.func33, Try.ntmps33
  go_wp2_with fail
  refine (VA.out _ F1.out).mono ?_
  rintro e w2 ⟨rfl, f2⟩
  have F2 := Lib.hid (F1.out.trans f2)
  have P2 := Lib.hid (f2.pt P1.out (by simp))
  have k2 := P2.out.cell
  replace f2 := Lib.hid f2
  clear k1 hw1 hb1
  cases hv : validT T
  · have hx := hX.out
    unfold reachF at hx
    rw [hv] at hx
    obtain ⟨rfl, rfl⟩ : [] = X ∧ 1 = z := by simpa using hx
    clear hx
    replace hv := Lib.hid hv
    go_wp2_with fail
    go_ret2
    exact ⟨_, rfl, NIn.nil _, F2.out⟩
  · have hV := (validT_iff T).mp hv
    have hx := hX.out
    unfold reachF at hx
    rw [hv] at hx
    obtain ⟨rfl, rfl⟩ : reachL T = X ∧ 0 = z := by simpa using hx
    clear hx
    have RE := reach_any T _ w2 ⟨r, rfl, hR.out.fr F2.out⟩ hV
    replace RE := Lib.hid RE; replace hv := Lib.hid hv; replace hV := Lib.hid hV
    go_wp2_with fail
    refine RE.out.mono ?_
    rintro e w3 ⟨ov, rfl, hN, f3⟩
    have F3 := Lib.hid (F2.out.trans f3)
    replace hN := Lib.hid hN; replace f3 := Lib.hid f3
    go_wp2_with fail
    go_ret2
    exact ⟨_, rfl, hN.out, F3.out⟩
end Go.Proofs.Ytnggimkkjdipmaa
