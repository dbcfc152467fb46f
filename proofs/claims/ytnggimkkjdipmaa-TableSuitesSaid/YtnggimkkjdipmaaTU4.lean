import Derived.Test.YtnggimkkjdipmaaTU2
import Derived.Test.YtnggimkkjdipmaaTL14
namespace Go.Proofs.Ytnggimkkjdipmaa
open Go.RowKit
set_option linter.unusedVariables false
set_option linter.unusedSimpArgs false
set_option maxHeartbeats 16000000
set_option maxRecDepth 100000
/-- Words, one behind another: what has been put together. -/
theorem Row.appN {w : World} {v : Value} {l : List Int} {bo : Option Nat} (h : Row 1 w v l.length (ints l) bo) (hn : l.length < 1000000) {x : Value} {m : List Int} (hx : NIn w x m) (hm : m.length < 1000000) :
    ∃ v' w' bo', (Builtin.append_ #[25, 25] 25 #[v, x]).run Try.prog w = .ok v' w' ∧ Row 1 w' v' (l ++ m).length (ints (l ++ m)) bo' ∧ (bo' = bo ∨ bo' = some w.heap.size) ∧ Fr bo.toList w w' := by
  obtain ⟨o, c, rfl, hl⟩ := hx
  by_cases h0 : m = []
  · subst h0
    have key : ∀ (base : Option Addr) (n cap : Nat), n ≤ cap → (Builtin.append_ #[25, 25] 25 #[.slice base n cap, .slice o 0 c]).run Try.prog w = .ok (.slice base n cap) w := fun base n cap hle => by
      cases o with
      | none => exact run_append_nothing w 25 25 25 3 iInt uInts infoInt base n cap hle _ (Src.ofNil _ uInts c)
      | some a => exact run_append_nothing w 25 25 25 3 iInt uInts infoInt base n cap hle _ (Src.ofSlice _ uInts a 0 c [] (by simp) (by simp) (by simp))
    refine ⟨v, w, bo, ?_, by simpa using h, .inl rfl, Fr.refl _ _⟩
    rcases h with ⟨_, h2, _, o2, rfl⟩ | ⟨b, off, cap, hb, rfl, h3, _⟩
    · exact key o2 0 0 (Nat.le_refl _)
    · exact key _ _ cap h3
  · have hpos : 0 < m.length := List.length_pos_iff.mpr h0
    obtain ⟨b, off, rfl, hb, _⟩ := hl 0 hpos
    have hsrc : Src Try.prog 1 25 (.slice (some ⟨b, off, none⟩) m.length c) m.length (ints m) w := Src.ofSlice _ uInts ⟨b, off, none⟩ _ c _ (by rw [ints_len]; omega) (fun j u hu => by
      have hj : j < m.length := by
        rcases Nat.lt_or_ge j m.length with h | h
        · exact h
        · rw [List.getElem?_eq_none (by rw [ints_len]; exact h)] at hu; cases hu
      obtain ⟨b', off', e, _, hcj⟩ := hl j hj
      cases e
      rw [Addr.add_lit, hcj]
      simp [ints, hj] at hu
      rw [hu]) (by intro u hu; unfold ints at hu; obtain ⟨y, _, rfl⟩ := List.mem_map.mp hu; rfl)
    have := h.append (t := 25) (ty := 25) (e := 3) (i := iInt) (z := zInt) uInts infoInt (by kernel_rfl) (by kernel_rfl) (by omega) (by kernel_rfl) (of_decide_eq_true (by kernel_rfl)) hn hsrc hm hpos
    obtain ⟨v', w', bo', h1, h2, h3, h4⟩ := this
    exact ⟨v', w', bo', h1, by rw [List.length_append, ints_app]; exact h2, h3, h4⟩
def catL (ps : List (Value × List Int)) (i : Nat) : List Int := (ps.take i).flatMap (·.2)
theorem catL_succ (ps : List (Value × List Int)) (i : Nat) (h : i < ps.length) : catL ps (i + 1) = catL ps i ++ ps[i].2 := by
  unfold catL
  rw [List.take_succ_eq_append_getElem h, List.flatMap_append]; simp
theorem concat_any (v : Value) (ps : List (Value × List Int)) (w : World) (hW : WSl w v ps) (hn : ps.length ≤ 1000) (hl : ∀ p ∈ ps, p.2.length ≤ 500) :
    Calls Try.prog 80 #[v] w fun e w' => ∃ v' bo, e = .returned v' ∧ Row 1 w' v' (catL ps ps.length).length (ints (catL ps ps.length)) bo ∧ (∀ z, bo = some z → w.heap.size ≤ z) ∧ Fr [] w w' := by
  have hcl : ∀ i, i ≤ ps.length → (catL ps i).length ≤ i * 500 := by
    intro i
    induction i with
    | zero => intro _; simp [catL]
    | succ i ih =>
      intro h
      rw [catL_succ ps i (by omega), List.length_append]
      have := ih (by omega)
      have := hl ps[i] (List.getElem_mem (by omega))
      omega
  have hS := hW
  obtain ⟨hC, hE⟩ := hW
  obtain ⟨o, cap, rfl⟩ : ∃ o cap, v = .slice o ps.length cap := by
    rcases hC with ⟨rfl, rfl⟩ | ⟨b, off, cap, rfl, _⟩
    · exact ⟨_, _, rfl⟩
    · exact ⟨_, _, rfl⟩
  have hcell : ∀ i (hi : i < ps.length), ∃ b off, o = some ⟨b, off, none⟩ ∧ b < w.heap.size ∧ w.cell? ⟨b, off + i, none⟩ = some ps[i].1 := fun i hi => by
    rcases hC with ⟨rfl, _⟩ | ⟨b, off, cap', e, _, _, h6, h7⟩
    · simp at hi
    · cases e; exact ⟨b, off, rfl, h6, h7 i hi⟩
  obtain ⟨N, hN⟩ : ∃ N, ps.length = N := ⟨_, rfl⟩
  have hN1 : N ≤ 1000 := by omega
  rw [hN]
  have hcl' : ∀ i, i ≤ N → (catL ps i).length ≤ 500000 := fun i hi => by have := hcl i (by omega); omega
  clear hn
  replace hC := Lib.hid hC; replace hE := Lib.hid hE; replace hS := Lib.hid hS; replace hcell := Lib.hid hcell; replace hcl := Lib.hid hcl; replace hcl' := Lib.hid hcl'; replace hl := Lib.hid hl; replace hN := Lib.hid hN
  go_enter Try.func80, Try.ntmps80
  go_wp2_with fail
  go_loopg [3, 11] (N + 1) (fun k v3 v11 wr => ∃ i : Nat, i ≤ N ∧ k + i = N + 1 ∧ v11 = .int .i64 i ∧ v3 = .int .i64 (catL ps i).length ∧ Fr [] w wr)
  case atStart => exact ⟨0, by omega, by omega, by go_num, rfl, Fr.refl _ _⟩
  case round =>
    obtain ⟨i, hi, hk, rfl, rfl, hF⟩ := hrel
    obtain ⟨wi, rfl⟩ : ∃ x : World, x = wr := ⟨_, rfl⟩
    by_cases hlt : i < N
    · have hltI : (i : Int) < N := by omega
      have hip : i < ps.length := by have := hN.out; omega
      obtain ⟨b, off, rfl, hb, c1⟩ := hcell.out i hip
      have c1 := (hF.cell (p := ⟨b, off + i, none⟩) hb (by simp)).trans c1
      obtain ⟨o2, c2, hv2, _⟩ := hE.out _ (List.getElem_mem hip)
      have hsu := catL_succ ps i hip
      have h1 := hcl'.out i hi
      have h2 := hl.out _ (List.getElem_mem hip)
      obtain ⟨l2, hl2⟩ : ∃ x, ps[i].2.length = x := ⟨_, rfl⟩
      obtain ⟨l1, hl1⟩ : ∃ x, (catL ps i).length = x := ⟨_, rfl⟩
      have hsl : (catL ps (i + 1)).length = l1 + l2 := by rw [hsu, List.length_append, hl1, hl2]
      rw [hv2, hl2] at c1
      rw [hl1] at h1 ⊢
      rw [hl2] at h2
      have hnn : ¬ ((l1 : Int) + (l2 : Int)) < 0 := by omega
      replace hF := Lib.hid hF; replace hb := Lib.hid hb; replace hsu := Lib.hid hsu; replace hl2 := Lib.hid hl2; replace hl1 := Lib.hid hl1; replace hsl := Lib.hid hsl; replace hv2 := Lib.hid hv2
      go_wp2_with fail
      go_roundg (gk - 1)
      case measure => omega
      case rel => exact ⟨i + 1, by omega, by omega, by go_num, by rw [hsl.out]; go_num, hF.out⟩
    · obtain rfl : i = N := by omega
      have hltI : ¬ (i : Int) < (i : Int) := by omega
      have h1 := hcl'.out i hi
      obtain ⟨l1, hl1⟩ : ∃ x, (catL ps i).length = x := ⟨_, rfl⟩
      rw [hl1] at h1 ⊢
      have GC := grow_any l1 (by omega) wi
      replace hF := Lib.hid hF; replace hl1 := Lib.hid hl1; replace GC := Lib.hid GC
      go_wp2_with fail
      refine GC.out.mono ?_
      rintro e w2 ⟨v2, b2, rfl, hr2, hb2, f2⟩
      have F2 := hF.out.trans f2
      have hw2 : w.heap.size ≤ wi.heap.size := hF.out.size
      have r0 : Row 1 w2 v2 (catL ps 0).length (ints (catL ps 0)) b2 := by simpa [catL, ints] using hr2
      replace hr2 := Lib.hid hr2; replace hb2 := Lib.hid hb2; replace f2 := Lib.hid f2; replace F2 := Lib.hid F2; replace r0 := Lib.hid r0
      go_wp2_with fail
      go_loopg [6, 27] (i + 1) (fun k v6 v27 wr => ∃ (j : Nat) (b6 : Option Nat), j ≤ i ∧ k + j = i + 1 ∧ v27 = .int .i64 j ∧ Row 1 wr v6 (catL ps j).length (ints (catL ps j)) b6 ∧ (∀ z, b6 = some z → w.heap.size ≤ z) ∧ Fr [] w wr)
      case atStart => exact ⟨0, b2, by omega, by omega, by go_num, r0.out, fun z hz => by have := hb2.out z hz; omega, F2.out⟩
      case round =>
        obtain ⟨j, b6, hj, hk2, rfl, hr6, hb6, hF6⟩ := hrel
        obtain ⟨wj, rfl⟩ : ∃ x : World, x = wr := ⟨_, rfl⟩
        by_cases hlt2 : j < i
        · have hltI2 : (j : Int) < i := by omega
          have hip : j < ps.length := by have := hN.out; omega
          obtain ⟨b, off, rfl, hb, c1⟩ := hcell.out j hip
          have c1 := (hF6.cell (p := ⟨b, off + j, none⟩) hb (by simp)).trans c1
          have hsu := catL_succ ps j hip
          have h3 := hcl'.out j (by omega)
          have h4 := hl.out _ (List.getElem_mem hip)
          obtain ⟨v', w', b', happ, hr', hb', f'⟩ := hr6.appN (by omega) ((hE.out _ (List.getElem_mem hip)).fr hF6) (by omega)
          rw [← hsu] at hr'
          have GF : Fr [] w w' := hF6.step f' (fun z hz => .inr (hb6 z (by simpa using hz)))
          have hb6' : ∀ z, b' = some z → w.heap.size ≤ z := fun z hz => by
            rcases hb' with e | e
            · exact hb6 z (by rw [← e]; exact hz)
            · rw [hz] at e; cases e; exact hF6.size
          obtain ⟨pv, hpv⟩ : ∃ x, ps[j].1 = x := ⟨_, rfl⟩
          rw [hpv] at c1 happ
          replace hr6 := Lib.hid hr6; replace hb6 := Lib.hid hb6; replace hF6 := Lib.hid hF6; replace happ := Lib.hid happ; replace hr' := Lib.hid hr'; replace hb' := Lib.hid hb'; replace f' := Lib.hid f'; replace GF := Lib.hid GF; replace hb6' := Lib.hid hb6'; replace hsu := Lib.hid hsu; replace hpv := Lib.hid hpv; replace hb := Lib.hid hb
          go_wp2_with (first | (at_builtin; refine wpList_append_run _ rfl _ _ _ rfl rfl rfl happ.out ?_))
          go_roundg (gk - 1)
          case measure => omega
          case rel => exact ⟨j + 1, _, by omega, by omega, by go_num, hr'.out, hb6'.out, GF.out⟩
        · obtain rfl : j = i := by omega
          have hltI2 : ¬ (j : Int) < (j : Int) := by omega
          replace hr6 := Lib.hid hr6; replace hb6 := Lib.hid hb6; replace hF6 := Lib.hid hF6
          go_wp2_with fail
          go_ret
          exact ⟨_, rfl, _, hr6.out, hb6.out, hF6.out⟩
end Go.Proofs.Ytnggimkkjdipmaa
