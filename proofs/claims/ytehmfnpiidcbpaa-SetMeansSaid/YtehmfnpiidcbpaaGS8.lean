import Derived.Test.YtehmfnpiidcbpaaGS6
namespace Go.Proofs.Ytehmfnpiidcbpaa
open Go.RowKit
set_option linter.unusedVariables false
set_option linter.unusedSimpArgs false
set_option maxHeartbeats 16000000
set_option maxRecDepth 100000
/-! ### slices.Grow of nothing, slices.Concat, of ranges -/
def zz2 : Array Value := #[.int .i64 0, .int .i64 0]
theorem zeros2_size (n : Nat) : (Builtin.zeroCells zz2 n).size = n * 2 := by
  simp [Builtin.zeroCells, zz2]
theorem zeros2_get (n j : Nat) (h : j < n * 2) : (Builtin.zeroCells zz2 n)[j]? = some (.int .i64 0) := by
  have h2 : j < (Builtin.zeroCells zz2 n).size := by rw [zeros2_size]; exact h
  rw [Array.getElem?_eq_getElem h2]
  simp only [Builtin.zeroCells, Array.getElem_map, Array.getElem_range]
  rcases Nat.mod_two_eq_zero_or_one j with e | e
  · simp [zz2, e]
  · simp [zz2, e]
theorem uIntM : Try.prog.underlying 3 = some (.int .i64) := by kernel_rfl
theorem run_append_made (w : World) (base : Option Addr) (n : Nat) (h1 : 0 < n) (h2 : n ≤ 1000000) :
    (Builtin.append_ #[22, 3] 22 #[.slice base 0 0, .int .i64 n]).run Try.prog w =
      .ok (.slice (some ⟨w.heap.size, 0, none⟩) n (grownCap w n 0 51)) (w.drew.alloc (.cells ((Builtin.zeroCells zz2 n) ++ Builtin.zeroCells zz2 (grownCap w n 0 51 - n)) 51)) := by
  have hz : iArrM.zero = some (.agg #[.int .i64 0, .int .i64 0]) := by kernel_rfl
  have hzc : (Value.agg #[.int .i64 0, .int .i64 0]).cells = zz2 := by simp [zz2, go_sem]
  have hb : iArrM.bytes = 16 := by kernel_rfl
  have hs : iArrM.size = 2 := by kernel_rfl
  have hw : IntKind.i64.wrap (n : Int) = n := by rw [IntKind.wrap_i64]; omega
  have hsl : Builtin.nextslicecap n 0 ≤ 2 * n := nextslicecap_le (by omega)
  have hn : ¬ n = 0 := by omega
  have hn0 : ¬ ((n : Int) < 0) := by omega
  have h63' : ¬ (9223372036854775807 < (n : Int)) := by omega
  have h48 : ¬ (281474976710656 < (n : Int) * 16) := by omega
  have h48' : ¬ (281474976710656 < Builtin.nextslicecap n 0 * 16) := by omega
  cases base <;> simp [Builtin.append_, run_underlying uPairsM, run_underlying uIntM, sizeOf, typeInfo, zeroValue, infoArrM, hz, hzc, hb, hs, hw, hn, hn0, h63', h48, h48', Question.forced, newRow, grownCap, asInt, go_sem] <;> (rw [if_neg (by omega)]; rfl)
theorem grow_any (n : Nat) (hn : n ≤ 1000000) (w : World) :
    Calls Try.prog 50 #[.slice none 0 0, .int .i64 n] w fun e w' => ∃ v' bo, e = .returned v' ∧ Row 2 w' v' 0 [] bo ∧ (∀ z, bo = some z → w.heap.size ≤ z) ∧ Fr [] w w' := by
  by_cases h0 : n = 0
  · subst h0
    go_enter Try.func50, Try.ntmps50
    go_wp2_with fail
    go_ret
    exact ⟨_, none, rfl, Row.nil 2 _ none, by simp, Fr.refl _ _⟩
  · have h1 : (0 : Int) < (n : Int) := by omega
    have hrun := run_append_made w none n (by omega) hn
    obtain ⟨cp, hcp⟩ : ∃ x, grownCap w n 0 51 = x := ⟨_, rfl⟩
    have hge := grownCap_ge w n 0 51
    rw [hcp] at hrun hge
    obtain ⟨Z, hZ⟩ : ∃ Z, (Builtin.zeroCells zz2 n) ++ Builtin.zeroCells zz2 (cp - n) = Z := ⟨_, rfl⟩
    have hzs : Z.size = cp * 2 := by rw [← hZ, Array.size_append, zeros2_size, zeros2_size]; omega
    have hzg : ∀ j, j < cp * 2 → Z[j]? = some (.int .i64 0) := fun j hj => by
      rw [← hZ, Array.getElem?_append]
      split
      · exact zeros2_get _ _ (by rw [← zeros2_size]; assumption)
      · rename_i h; rw [zeros2_size] at h ⊢; exact zeros2_get _ _ (by omega)
    rw [hZ] at hrun
    obtain ⟨w2, hw2⟩ : ∃ x, w.drew.alloc (.cells Z 51) = x := ⟨_, rfl⟩
    have P2 := Pt.newA w.drew 51 Z
    have F2 : Fr [] w w2 := by rw [← hw2]; exact ((Fr.refl [] w).drew).alloc _
    rw [hw2] at hrun P2
    have hd : w.drew.heap.size = w.heap.size := rfl
    rw [hd] at P2
    have GR : Row 2 w2 (.slice (some ⟨w.heap.size, 0, none⟩) 0 cp) 0 [] (some w.heap.size) := by
      refine .inr ⟨w.heap.size, 0, cp, rfl, rfl, by omega, P2.lt, rfl, fun j hj => ⟨?_, by rw [Nat.zero_add]; exact P2.free j⟩, fun j hj => by omega⟩
      rw [Nat.zero_add, P2.cell, Array.getElem?_toList, hzg j hj]
      rfl
    have hcp0 : ¬ cp = 0 := by omega
    have hcp1 : 0 < cp := by omega
    clear hw2
    replace P2 := Lib.hid P2; replace F2 := Lib.hid F2; replace GR := Lib.hid GR; replace hrun := Lib.hid hrun; replace hcp := Lib.hid hcp; replace hge := Lib.hid hge; replace hzs := Lib.hid hzs; replace hzg := Lib.hid hzg; replace hZ := Lib.hid hZ
    go_enter Try.func50, Try.ntmps50
    go_wp2_with (first | (at_builtin; refine wpList_append_run2 _ rfl _ _ _ _ rfl rfl rfl hrun.out ?_))
    go_ret
    exact ⟨_, _, rfl, GR.out, by simp, F2.out⟩
theorem cellsPM : Try.prog.cellsOf 51 = 2 := by kernel_rfl
/-- Ranges, one list behind another. -/
theorem Row.appN {w : World} {v : Value} {l : List (Int × Int)} {bo : Option Nat} (h : Row 2 w v l.length (pcells l) bo) (hn : l.length < 1000000) {x : Value} {m : List (Int × Int)} (hx : PIn w x m) (hm : m.length < 1000000) :
    ∃ v' w' bo', (Builtin.append_ #[22, 22] 22 #[v, x]).run Try.prog w = .ok v' w' ∧ Row 2 w' v' (l ++ m).length (pcells (l ++ m)) bo' ∧ (bo' = bo ∨ bo' = some w.heap.size) ∧ Fr bo.toList w w' := by
  obtain ⟨o, c, rfl, hl⟩ := hx
  by_cases h0 : m = []
  · subst h0
    have key : ∀ (base : Option Addr) (n cap : Nat), n ≤ cap → (Builtin.append_ #[22, 22] 22 #[.slice base n cap, .slice o 0 c]).run Try.prog w = .ok (.slice base n cap) w := fun base n cap hle => by
      cases o with
      | none => exact run_append_nothing w 22 22 22 51 iArrM uPairsM infoArrM base n cap hle _ (Src.ofNil _ uPairsM c)
      | some a => exact run_append_nothing w 22 22 22 51 iArrM uPairsM infoArrM base n cap hle _ (Src.ofSlice _ uPairsM a 0 c [] (by simp) (by simp) (by simp))
    refine ⟨v, w, bo, ?_, by simpa using h, .inl rfl, Fr.refl _ _⟩
    rcases h with ⟨_, h2, _, o2, rfl⟩ | ⟨b, off, cap, hb, rfl, h3, _⟩
    · exact key o2 0 0 (Nat.le_refl _)
    · exact key _ _ cap h3
  · have hpos : 0 < m.length := List.length_pos_iff.mpr h0
    obtain ⟨b, off, rfl, hb, _⟩ := hl 0 hpos
    have hsrc : Src Try.prog 2 22 (.slice (some ⟨b, off, none⟩) m.length c) m.length (pcells m) w := Src.ofSlice _ uPairsM ⟨b, off, none⟩ _ c _ (by rw [pcells_len]) (fun j u hu => by
      have hj : j < m.length * 2 := by
        rcases Nat.lt_or_ge j (m.length * 2) with h | h
        · exact h
        · rw [List.getElem?_eq_none (by rw [pcells_len]; exact h)] at hu; cases hu
      obtain ⟨b', off', e, _, c0, c1⟩ := hl (j / 2) (by omega)
      cases e
      obtain ⟨g0, g1⟩ := pcells_get m (j / 2) (by omega)
      rw [Addr.add_lit]
      rcases Nat.mod_two_eq_zero_or_one j with e | e
      · rw [show j / 2 * 2 = j by omega] at g0 c0
        rw [c0]; rw [g0] at hu; exact hu
      · rw [show j / 2 * 2 + 1 = j by omega] at g1
        rw [show off + j / 2 * 2 + 1 = off + j by omega] at c1
        rw [c1]; rw [g1] at hu; exact hu) (by intro u hu; unfold pcells at hu; simp at hu; obtain ⟨_, _, _, h | h⟩ := hu <;> subst h <;> rfl)
    have := h.append (t := 22) (ty := 22) (e := 51) (i := iArrM) (z := zArrM) uPairsM infoArrM (by kernel_rfl) (by kernel_rfl) (by omega) (by kernel_rfl) (of_decide_eq_true (by kernel_rfl)) hn hsrc hm hpos
    obtain ⟨v', w', bo', h1, h2, h3, h4⟩ := this
    exact ⟨v', w', bo', h1, by rw [List.length_append, pcells_app]; exact h2, h3, h4⟩
/-- Lists of ranges in memory. -/
structure LsI (w : World) (v : Value) (ps : List (Value × List (Int × Int))) : Prop where
  row : ∃ o cap, v = .slice o ps.length cap ∧ ∀ i (h : i < ps.length), ∃ b off, o = some ⟨b, off, none⟩ ∧ b < w.heap.size ∧ w.cell? ⟨b, off + i, none⟩ = some ps[i].1
  el : ∀ p ∈ ps, PIn w p.1 p.2
def catL (ps : List (Value × List (Int × Int))) (i : Nat) : List (Int × Int) := (ps.take i).flatMap (·.2)
theorem catL_succ (ps : List (Value × List (Int × Int))) (i : Nat) (h : i < ps.length) : catL ps (i + 1) = catL ps i ++ ps[i].2 := by
  unfold catL
  rw [List.take_succ_eq_append_getElem h, List.flatMap_append]; simp
theorem concat_any (v : Value) (ps : List (Value × List (Int × Int))) (w : World) (hW : LsI w v ps) (hn : ps.length ≤ 1000) (hcl : ∀ i, i ≤ ps.length → (catL ps i).length ≤ 40000) (hl : ∀ p ∈ ps, p.2.length ≤ 40000) :
    Calls Try.prog 33 #[v] w (RowR w (catL ps ps.length)) := by
  obtain ⟨hC, hE⟩ := hW
  obtain ⟨o, cap, rfl, hcell⟩ := hC
  obtain ⟨N, hN⟩ : ∃ N, ps.length = N := ⟨_, rfl⟩
  have hN1 : N ≤ 1000 := by omega
  rw [hN]
  have hcl' : ∀ i, i ≤ N → (catL ps i).length ≤ 40000 := fun i hi => hcl i (by omega)
  clear hn
  replace hE := Lib.hid hE; replace hcell := Lib.hid hcell; replace hcl := Lib.hid hcl; replace hcl' := Lib.hid hcl'; replace hl := Lib.hid hl; replace hN := Lib.hid hN
  go_enter Try.func33, Try.ntmps33
  go_wp2_with fail
  go_loopg [3, 11] (N + 1) (fun k v3 v11 wr => ∃ i : Nat, i ≤ N ∧ k + i = N + 1 ∧ v11 = .int .i64 i ∧ v3 = .int .i64 (catL ps i).length ∧ Fr [] w wr)
  case atStart => exact ⟨0, by omega, by omega, by go_num, rfl, Fr.refl _ _⟩
  case round =>
    obtain ⟨i, hi, hk, rfl, rfl, hF⟩ := hrel
    obtain ⟨wi, rfl⟩ : ∃ x : World, x = wr := ⟨_, rfl⟩
    by_cases hlt : i < N
    · have hltI : (i : Int) < N := by omega
      have hip : i < ps.length := by have := hN.out; omega
      obtain ⟨b, off, rfl, hb, c1⟩ := hcell.out i hip
      have c1 := (hF.cell (p := ⟨b, off + i, none⟩) hb (by simp)).trans c1
      obtain ⟨o2, c2, hv2, _⟩ := hE.out _ (List.getElem_mem hip)
      have hsu := catL_succ ps i hip
      have h1 := hcl'.out i hi
      have h2 := hl.out _ (List.getElem_mem hip)
      obtain ⟨l2, hl2⟩ : ∃ x, ps[i].2.length = x := ⟨_, rfl⟩
      obtain ⟨l1, hl1⟩ : ∃ x, (catL ps i).length = x := ⟨_, rfl⟩
      have hsl : (catL ps (i + 1)).length = l1 + l2 := by rw [hsu, List.length_append, hl1, hl2]
      rw [hv2, hl2] at c1
      rw [hl1] at h1 ⊢
      rw [hl2] at h2
      have hnn : ¬ ((l1 : Int) + (l2 : Int)) < 0 := by omega
      replace hF := Lib.hid hF; replace hb := Lib.hid hb; replace hsu := Lib.hid hsu; replace hl2 := Lib.hid hl2; replace hl1 := Lib.hid hl1; replace hsl := Lib.hid hsl; replace hv2 := Lib.hid hv2
      go_wp2_with fail
      go_roundg (gk - 1)
      case measure => omega
      case rel => exact ⟨i + 1, by omega, by omega, by go_num, by rw [hsl.out]; go_num, hF.out⟩
    · obtain rfl : i = N := by omega
      have hltI : ¬ (i : Int) < (i : Int) := by omega
      have h1 := hcl'.out i hi
      obtain ⟨l1, hl1⟩ : ∃ x, (catL ps i).length = x := ⟨_, rfl⟩
      rw [hl1] at h1 ⊢
      have GC := grow_any l1 (by omega) wi
      replace hF := Lib.hid hF; replace hl1 := Lib.hid hl1; replace GC := Lib.hid GC
      go_wp2_with fail
      refine GC.out.mono ?_
      rintro e w2 ⟨v2, b2, rfl, hr2, hb2, f2⟩
      have F2 := hF.out.trans f2
      have hw2 : w.heap.size ≤ wi.heap.size := hF.out.size
      have r0 : Row 2 w2 v2 (catL ps 0).length (pcells (catL ps 0)) b2 := by simpa [catL, pcells] using hr2
      replace hr2 := Lib.hid hr2; replace hb2 := Lib.hid hb2; replace f2 := Lib.hid f2; replace F2 := Lib.hid F2; replace r0 := Lib.hid r0
      go_wp2_with fail
      go_loopg [6, 27] (i + 1) (fun k v6 v27 wr => ∃ (j : Nat) (b6 : Option Nat), j ≤ i ∧ k + j = i + 1 ∧ v27 = .int .i64 j ∧ Row 2 wr v6 (catL ps j).length (pcells (catL ps j)) b6 ∧ (∀ z, b6 = some z → w.heap.size ≤ z) ∧ Fr [] w wr)
      case atStart => exact ⟨0, b2, by omega, by omega, by go_num, r0.out, fun z hz => by have := hb2.out z hz; omega, F2.out⟩
      case round =>
        obtain ⟨j, b6, hj, hk2, rfl, hr6, hb6, hF6⟩ := hrel
        obtain ⟨wj, rfl⟩ : ∃ x : World, x = wr := ⟨_, rfl⟩
        by_cases hlt2 : j < i
        · have hltI2 : (j : Int) < i := by omega
          have hip : j < ps.length := by have := hN.out; omega
          obtain ⟨b, off, rfl, hb, c1⟩ := hcell.out j hip
          have c1 := (hF6.cell (p := ⟨b, off + j, none⟩) hb (by simp)).trans c1
          have hsu := catL_succ ps j hip
          have h3 := hcl'.out j (by omega)
          have h4 := hl.out _ (List.getElem_mem hip)
          obtain ⟨v', w', b', happ, hr', hb', f'⟩ := hr6.appN (by omega) ((hE.out _ (List.getElem_mem hip)).fr hF6) (by omega)
          rw [← hsu] at hr'
          have GF : Fr [] w w' := hF6.step f' (fun z hz => .inr (hb6 z (by simpa using hz)))
          have hb6' : ∀ z, b' = some z → w.heap.size ≤ z := fun z hz => by
            rcases hb' with e | e
            · exact hb6 z (by rw [← e]; exact hz)
            · rw [hz] at e; cases e; exact hF6.size
          obtain ⟨pv, hpv⟩ : ∃ x, ps[j].1 = x := ⟨_, rfl⟩
          rw [hpv] at c1 happ
          replace hr6 := Lib.hid hr6; replace hb6 := Lib.hid hb6; replace hF6 := Lib.hid hF6; replace happ := Lib.hid happ; replace hr' := Lib.hid hr'; replace hb' := Lib.hid hb'; replace f' := Lib.hid f'; replace GF := Lib.hid GF; replace hb6' := Lib.hid hb6'; replace hsu := Lib.hid hsu; replace hpv := Lib.hid hpv; replace hb := Lib.hid hb
          go_wp2_with (first | (at_builtin; refine wpList_append_run _ rfl _ _ _ rfl rfl rfl happ.out ?_))
          go_roundg (gk - 1)
          case measure => omega
          case rel => exact ⟨j + 1, _, by omega, by omega, by go_num, hr'.out, hb6'.out, GF.out⟩
        · obtain rfl : j = i := by omega
          have hltI2 : ¬ (j : Int) < (j : Int) := by omega
          replace hr6 := Lib.hid hr6; replace hb6 := Lib.hid hb6; replace hF6 := Lib.hid hF6
          go_wp2_with fail
          go_ret
          exact ⟨_, _, rfl, hr6.out, hb6.out, hF6.out⟩
end Go.Proofs.Ytehmfnpiidcbpaa
