import Derived.Test.YtnggimkkjdipmaaTL21
import Derived.Test.YtnggimkkjdipmaaTU7
import Derived.Test.YtnggimkkjdipmaaTU8
import Derived.Test.YtnggimkkjdipmaaTW2
import Derived.Test.YtnggimkkjdipmaaTM9
import Derived.Test.YtnggimkkjdipmaaTOpen
namespace Go.Proofs.Ytnggimkkjdipmaa
open Go.RowKit
set_option linter.unusedVariables false
set_option linter.unusedSimpArgs false
set_option maxHeartbeats 16000000
set_option maxRecDepth 100000
def PutC (L : List (List Int)) (ps : List (Value × List Int)) (w : World) (e : Ending) (w' : World) : Prop := ∃ v' ps', e = .returned v' ∧ wds ps' = L ∧ WSl w' v' ps' ∧ (∀ p ∈ ps', p ∈ ps ∨ CapV p) ∧ Fr [] w w'
/-- put, with what is known of the words' room. -/
theorem rputc_any (v wv : Value) (ps : List (Value × List Int)) (word : List Int) (w : World) (h : WSl w v ps) (hw : NIn w wv word) (hA : Asc (wds ps)) (hl : ps.length ≤ 1000000) (hlw : word.length ≤ 900000) (hlp : ∀ p ∈ ps, p.2.length ≤ 900000) :
    Calls Try.prog 83 #[v, wv] w (PutC (insW word (wds ps)) ps w) := by
  have hln : (wds ps).length = ps.length := by unfold wds; exact List.length_map _
  obtain ⟨n, cap, hvn⟩ : ∃ o cap, v = .slice o ps.length cap := by
    rcases h.1 with ⟨rfl, rfl⟩ | ⟨b, off, cap, rfl, _⟩
    · exact ⟨_, _, rfl⟩
    · exact ⟨_, _, rfl⟩
  have LC : ∀ (W : World) (i : Nat) (hi : i < ps.length), Fr [] w W → Calls Try.prog 101 #[ps[i].1, wv] W fun e w' => e = .returned (.bool (decide (byLen ps[i].2 word < 0))) ∧ Fr [] W w' := fun W i hi f =>
    rless_any _ _ _ _ W ((h.2 _ (List.getElem_mem hi)).fr f) (hw.fr f) (by have := hlp _ (List.getElem_mem hi); omega) (by omega)
  have IC : ∀ (W : World) (i : Nat) (hi : i < ps.length), Fr [] w W → Calls Try.prog 21 #[ps[i].1, wv] W fun e w' => e = .returned (.bool (decide (ps[i].2 = word))) ∧ Fr [] W w' := fun W i hi f =>
    ints_any _ _ _ _ W ((h.2 _ (List.getElem_mem hi)).fr f) (hw.fr f) (by have := hlp _ (List.getElem_mem hi); omega)
  have CC : ∀ (W : World), Fr [] w W → Calls Try.prog 84 #[wv] W fun e w' => ∃ v', (∃ bo, e = .returned v' ∧ Row 1 w' v' word.length (ints word) bo ∧ (∀ z, bo = some z → W.heap.size ≤ z)) ∧ Fr [] W w' := fun W f =>
    (rcopy_any _ _ W (hw.fr f) (by omega)).mono fun e w' ⟨v', bo, h1, h2, h3, h4⟩ => ⟨v', ⟨bo, h1, h2, h3⟩, h4⟩
  have hget : ∀ i (hi : i < ps.length), (wds ps)[i]'(by omega) = ps[i].2 := fun i hi => by unfold wds; simp
  have LI : ∀ lo, lo ≤ ps.length → (∀ i (hi : i < ps.length), i < lo → byLen ps[i].2 word < 0) → (∀ i (hi : i < ps.length), lo ≤ i → 0 ≤ byLen ps[i].2 word) → LoI (wds ps) word lo := fun lo h1 h2 h3 =>
    ⟨by omega, fun i hi hl => by rw [hget i (by omega)]; exact h2 i (by omega) hl, fun hi => by rw [hget lo (by omega)]; have := h3 lo (by omega) (Nat.le_refl _); omega⟩
  have hS := h
  obtain ⟨hC, hE⟩ := h
  subst hvn
  have hsw : SrcW w n (ps.map (·.1)) := fun i hi => by
    have hi' : i < ps.length := by simpa using hi
    rcases hC with ⟨rfl, _⟩ | ⟨b, off, cap', e, _, _, h6, h7⟩
    · simp at hi
    · cases e; exact ⟨b, off, rfl, h6, by rw [h7 i hi']; simp⟩
  have hcell : ∀ i (hi : i < ps.length), ∃ b off, n = some ⟨b, off, none⟩ ∧ b < w.heap.size ∧ w.cell? ⟨b, off + i, none⟩ = some ps[i].1 := fun i hi => by
    obtain ⟨b, off, e, h1, h2⟩ := hsw i (by simpa using hi)
    exact ⟨b, off, e, h1, by rw [h2]; simp⟩
  have hcap : (ps.length = 0 ∧ n = none ∧ cap = 0) ∨ (∃ b off, n = some ⟨b, off, none⟩ ∧ 0 < ps.length ∧ ps.length ≤ cap) := by
    rcases hC with ⟨rfl, e⟩ | ⟨b, off, cap', e, h2, h3, _⟩
    · cases e; exact .inl ⟨rfl, rfl, rfl⟩
    · cases e; exact .inr ⟨b, off, rfl, h2, h3⟩
  have h1c : ∀ u ∈ ps.map (·.1), u.oneCell' = true := fun u hu => by
    obtain ⟨p, hp, rfl⟩ := List.mem_map.mp hu
    exact (hE p hp).one1
  have FIN : ∀ (lo : Nat) (W7 : World) (v2 v7 : Value) (b7 : Option Nat), LoI (wds ps) word lo → (wds ps)[lo]? ≠ some word → NIn W7 v2 word → CapV (v2, word) → Fr [] w W7 → Row 1 W7 v7 ((ps.map (·.1)).take lo ++ v2 :: (ps.map (·.1)).drop lo).length ((ps.map (·.1)).take lo ++ v2 :: (ps.map (·.1)).drop lo) b7 → PutC (insW word (wds ps)) ps w (.returned v7) W7 := fun lo W7 v2 v7 b7 hL hne hv2 hcv f hr => by
    have e1 : (ps.map (·.1)).take lo ++ v2 :: (ps.map (·.1)).drop lo = (ps.take lo ++ (v2, word) :: ps.drop lo).map (·.1) := by
      rw [List.map_append, List.map_cons, List.map_take, List.map_drop]
    rw [e1, List.length_map] at hr
    refine ⟨v7, _, rfl, hL.put hne v2, hr.wsl (by simp; omega) (fun p hp => ?_), (fun p hp => ?_), f⟩
    · rcases List.mem_append.mp hp with hp | hp
      · exact (hE p (List.mem_of_mem_take hp)).fr f
      · rcases List.mem_cons.mp hp with rfl | hp
        · exact hv2
        · exact (hE p (List.mem_of_mem_drop hp)).fr f
    · rcases List.mem_append.mp hp with hp | hp
      · exact .inl (List.mem_of_mem_take hp)
      · rcases List.mem_cons.mp hp with rfl | hp
        · exact .inr hcv
        · exact .inl (List.mem_of_mem_drop hp)
  obtain ⟨N, hN⟩ : ∃ N, ps.length = N := ⟨_, rfl⟩
  have hlm : (ps.map (·.1)).length = N := by rw [List.length_map, hN]
  have hN1 : N ≤ 1000000 := by omega
  rw [hN]
  replace hC := Lib.hid hC; replace hE := Lib.hid hE; replace hS := Lib.hid hS; replace LC := Lib.hid LC; replace IC := Lib.hid IC; replace CC := Lib.hid CC; replace LI := Lib.hid LI; replace FIN := Lib.hid FIN; replace hget := Lib.hid hget; replace hA := Lib.hid hA; replace hw := Lib.hid hw; replace hlp := Lib.hid hlp; replace hcell := Lib.hid hcell; replace hsw := Lib.hid hsw; replace hcap := Lib.hid hcap; replace hN := Lib.hid hN; replace hlm := Lib.hid hlm; replace hlw := Lib.hid hlw; replace h1c := Lib.hid h1c; replace hln := Lib.hid hln
  clear hl
  go_enter Try.func83, Try.ntmps83
  go_wp2_with fail
  go_loopg [5, 6] (N + 1) (fun k v5 v6 wr => ∃ lo hi : Nat, lo ≤ hi ∧ hi ≤ N ∧ k + lo = hi + 1 ∧ v5 = .int .i64 lo ∧ v6 = .int .i64 hi ∧ (∀ i (h : i < ps.length), i < lo → byLen ps[i].2 word < 0) ∧ (∀ i (h : i < ps.length), hi ≤ i → 0 ≤ byLen ps[i].2 word) ∧ Fr [] w wr)
  case atStart => exact ⟨0, N, by omega, by omega, by omega, by go_num, by go_num, fun i _ h => by omega, fun i h h2 => by have := hN.out; omega, Fr.refl _ _⟩
  case round =>
    obtain ⟨lo, hi, h1, h2, hk, rfl, rfl, hlo, hhi, hF⟩ := hrel
    obtain ⟨wi, rfl⟩ : ∃ x : World, x = wr := ⟨_, rfl⟩
    by_cases hlt : lo < hi
    · as_aux_lemma =>
      have hltI : (lo : Int) < (hi : Int) := by omega
      obtain ⟨md, hmd⟩ : ∃ m, (lo + hi) / 2 = m := ⟨_, rfl⟩
      have hm1 : lo ≤ md ∧ md < hi := by omega
      have hm2 : md < ps.length := by have := hN.out; omega
      have hm2I : (md : Int) < N := by omega
      have hquo : ((lo : Int) + (hi : Int)) / 2 = (md : Int) := by omega
      obtain ⟨b, off, rfl, hb, c1⟩ := hcell.out md hm2
      have c1 := (hF.cell (p := ⟨b, off + md, none⟩) hb (by simp)).trans c1
      have C := LC.out wi md hm2 hF
      have hmu := hget.out md hm2
      obtain ⟨pv, hpv⟩ : ∃ x, ps[md].1 = x := ⟨_, rfl⟩
      obtain ⟨bb, hbb⟩ : ∃ x, decide (byLen ps[md].2 word < 0) = x := ⟨_, rfl⟩
      rw [hpv] at c1 C
      rw [hbb] at C
      replace hlo := Lib.hid hlo; replace hhi := Lib.hid hhi; replace hF := Lib.hid hF; replace C := Lib.hid C; replace hmu := Lib.hid hmu; replace hpv := Lib.hid hpv; replace hb := Lib.hid hb; replace hmd := Lib.hid hmd; replace hm1 := Lib.hid hm1; replace hbb := Lib.hid hbb
      go_wp2_with fail
      refine C.out.mono ?_
      rintro e w2 ⟨rfl, f2⟩
      have GF := hF.out.trans f2
      cases bb
      · have hhi2 : ∀ i (h : i < ps.length), md ≤ i → 0 ≤ byLen ps[i].2 word := fun i h hi => by
          have := hA.out.hi (m := md) (by have := hln.out; omega) (w := word) (by rw [hmu.out]; exact of_decide_eq_false hbb.out) i hi (by have := hln.out; omega)
          rw [hget.out i h] at this; omega
        clear hltI hm2I
        replace f2 := Lib.hid f2; replace GF := Lib.hid GF; replace hhi2 := Lib.hid hhi2
        go_wp2_with fail
        go_roundg (md - lo + 1)
        case measure => have := hm1.out; omega
        case rel => exact ⟨lo, md, by have := hm1.out; omega, by have := hm1.out; omega, by have := hm1.out; omega, by go_num, by go_num, hlo.out, hhi2.out, GF.out⟩
      · have hlo2 : ∀ i (h : i < ps.length), i < md + 1 → byLen ps[i].2 word < 0 := fun i h hi => by
          have := hA.out.lo (m := md) (by have := hln.out; omega) (w := word) (by rw [hmu.out]; exact of_decide_eq_true hbb.out) i (by omega) (by have := hln.out; omega)
          rw [hget.out i h] at this; exact this
        clear hltI hm2I
        replace f2 := Lib.hid f2; replace GF := Lib.hid GF; replace hlo2 := Lib.hid hlo2
        go_wp2_with fail
        go_roundg (hi - (md + 1) + 1)
        case measure => have := hm1.out; omega
        case rel => exact ⟨md + 1, hi, by have := hm1.out; omega, by omega, by have := hm1.out; omega, by go_num, by go_num, hlo2.out, hhi.out, GF.out⟩
    · obtain rfl : lo = hi := by omega
      have hltI : ¬ (lo : Int) < (lo : Int) := by omega
      have hL := LI.out lo (by have := hN.out; omega) hlo hhi
      have hins := hL.ins
      by_cases hlN : lo < N
      · have hlNI : (lo : Int) < (N : Int) := by omega
        have hlp2 : lo < ps.length := by have := hN.out; omega
        obtain ⟨b, off, rfl, hb, c1⟩ := hcell.out lo hlp2
        have c1 := (hF.cell (p := ⟨b, off + lo, none⟩) hb (by simp)).trans c1
        have C := IC.out wi lo hlp2 hF
        have hcap2 : N ≤ cap := by
          rcases hcap.out with ⟨h, _, _⟩ | ⟨b', off', _, _, h⟩
          · have := hN.out; omega
          · have := hN.out; omega
        have hmu := hget.out lo hlp2
        have hne0 : (wds ps)[lo]? = some ps[lo].2 := by rw [List.getElem?_eq_getElem (by have := hln.out; omega), hmu]
        obtain ⟨pv, hpv⟩ : ∃ x, ps[lo].1 = x := ⟨_, rfl⟩
        rw [hpv] at c1 C
        by_cases heq : ps[lo].2 = word
        · as_aux_lemma =>
          rw [decide_eq_true heq] at C
          rw [if_pos (by rw [hne0, heq])] at hins
          replace hlo := Lib.hid hlo; replace hhi := Lib.hid hhi; replace hF := Lib.hid hF; replace C := Lib.hid C; replace hmu := Lib.hid hmu; replace hpv := Lib.hid hpv; replace hb := Lib.hid hb; replace hL := Lib.hid hL; replace hins := Lib.hid hins; replace hne0 := Lib.hid hne0; replace heq := Lib.hid heq; replace hcap2 := Lib.hid hcap2
          go_wp2_with fail
          refine C.out.mono ?_
          rintro e w2 ⟨rfl, f2⟩
          have GF := hF.out.trans f2
          have GW := hS.out.fr GF
          rw [hN.out] at GW
          replace f2 := Lib.hid f2; replace GF := Lib.hid GF; replace GW := Lib.hid GW
          go_wp2_with fail
          go_ret
          exact ⟨_, _, rfl, hins.out.symm, GW.out, fun p hp => .inl hp, GF.out⟩
        · rw [decide_eq_false heq] at C
          have hne : (wds ps)[lo]? ≠ some word := by rw [hne0]; intro h; exact heq (by simpa using h)
          have hc1 : lo < cap := by omega
          have hc2 : ¬ cap = lo := by omega
          have hc3 : ¬ cap = 0 := by omega
          have ST1 := fun (W2 : World) (v2 : Value) (f : Fr [] w W2) => put_st1 (v2 := v2) ((ps.map (·.1)).drop lo) (some ⟨b, off + lo, none⟩) (cap - lo) (hsw.out.drop lo) f (fun u hu => h1c.out u (List.mem_of_mem_drop hu)) (by rw [List.length_drop, hlm.out]; omega)
          have ST2 := fun (W4 : World) (v2 v4 : Value) (b4 : Option Nat) (f : Fr [] w W4) (hr : Row 1 W4 v4 (v2 :: (ps.map (·.1)).drop lo).length (v2 :: (ps.map (·.1)).drop lo) b4) (h2 : v2.oneCell' = true) => put_st2 (w := w) (W4 := W4) (v4 := v4) ((ps.map (·.1)).take lo) (v2 :: (ps.map (·.1)).drop lo) (some ⟨b, off, none⟩) cap (hsw.out.take lo) f b4 hr (fun u hu => h1c.out u (List.mem_of_mem_take hu)) (fun u hu => by
            rcases List.mem_cons.mp hu with rfl | hu
            · exact h2
            · exact h1c.out u (List.mem_of_mem_drop hu)) (by rw [List.length_take, hlm.out]; omega) (by rw [List.length_cons, List.length_drop, hlm.out]; omega)
          have el1 : ((ps.map (·.1)).drop lo).length = N - lo := by rw [List.length_drop, hlm.out]
          have el2 : ((ps.map (·.1)).take lo).length = lo := by rw [List.length_take, hlm.out] <;> omega
          replace hlo := Lib.hid hlo; replace hhi := Lib.hid hhi; replace hF := Lib.hid hF; replace C := Lib.hid C; replace hmu := Lib.hid hmu; replace hpv := Lib.hid hpv; replace hb := Lib.hid hb; replace hL := Lib.hid hL; replace hins := Lib.hid hins; replace hne0 := Lib.hid hne0; replace heq := Lib.hid heq; replace hcap2 := Lib.hid hcap2; replace hne := Lib.hid hne; replace ST1 := Lib.hid ST1; replace ST2 := Lib.hid ST2; replace el1 := Lib.hid el1; replace el2 := Lib.hid el2
          go_wp2_with fail
          refine C.out.mono ?_
          rintro e w2 ⟨rfl, f2⟩
          have GF := hF.out.trans f2
          replace f2 := Lib.hid f2; replace GF := Lib.hid GF
          clear hltI hlNI hlt
          go_upto_region 9 with fail
          go_region_held3 (fun w' => True)
            (first | trivial | exact True.intro)
            ((first
              | (obtain ⟨v5, w5, b5, happ, hr5, hb5, f5⟩ := ST1.out w4 (.slice o4 word.length c4) F4.out
                 rw [el1.out] at happ
                 replace hr5 := Lib.hid hr5; replace hb5 := Lib.hid hb5; replace f5 := Lib.hid f5
                 refine step_append_run rfl _ _ _ rfl (v := .slice (some ⟨w4.heap.size, 0, none⟩) 1 1) rfl (xv := .slice (some ⟨b, off + lo, none⟩) (N - lo) (cap - lo)) rfl happ ?_
                 clear happ)
              | (go_at_call 84
                 refine (CC.out _ (by first | exact GF.out.drew | exact GF.out)).mono ?_
                 rintro e w4 ⟨v4, ⟨b4, rfl, hr4, hb4⟩, f4⟩
                 obtain ⟨o4, c4, rfl⟩ := hr4.len
                 have F4 := Lib.hid (GF.out.trans (((Fr.refl [] w2).drew).trans f4))
                 replace hr4 := Lib.hid hr4; replace hb4 := Lib.hid hb4; replace f4 := Lib.hid f4)))
          all_goals
            obtain ⟨v6, w6, v7, w7, b7, happ6, happ7, hr7, f7⟩ := ST2.out w5 (.slice o4 word.length c4) v5 b5 (F4.out.trans f5.out) hr5.out (hr4.out.nin.one1)
            rw [el2.out] at happ6
            have GO := Lib.hid (FIN.out lo w7 (.slice o4 word.length c4) v7 b7 hL.out hne.out (hr4.out.nin.fr (f5.out.trans f7)) hr4.out.capv ((F4.out.trans f5.out).trans f7) hr7)
            replace happ6 := Lib.hid happ6; replace happ7 := Lib.hid happ7
            clear hr7 f7 ST1 ST2 FIN
            go_wp2_with (first | (at_builtin; refine wpList_append_run _ rfl _ _ _ rfl rfl rfl happ6.out ?_) | (at_builtin; refine wpList_append_run _ rfl _ _ _ rfl rfl rfl happ7.out ?_))
            go_ret
            exact GO.out
      · obtain rfl : lo = N := by omega
        have hne : (wds ps)[lo]? ≠ some word := by rw [List.getElem?_eq_none (by have := hln.out; have := hN.out; omega)]; simp
        rcases hcap.out with ⟨h0, rfl, rfl⟩ | ⟨b, off, rfl, h0, hc⟩
        · obtain rfl : lo = 0 := by have := hN.out; omega
          have ST1 := fun (W2 : World) (v2 : Value) (f : Fr [] w W2) => put_st1 (v2 := v2) ((ps.map (·.1)).drop 0) (none) (0) (fun j hj => by rw [List.length_drop, hlm.out] at hj; omega) f (fun u hu => h1c.out u (List.mem_of_mem_drop hu)) (by rw [List.length_drop, hlm.out]; omega)
          have ST2 := fun (W4 : World) (v2 v4 : Value) (b4 : Option Nat) (f : Fr [] w W4) (hr : Row 1 W4 v4 (v2 :: (ps.map (·.1)).drop 0).length (v2 :: (ps.map (·.1)).drop 0) b4) (h2 : v2.oneCell' = true) => put_st2 (w := w) (W4 := W4) (v4 := v4) ((ps.map (·.1)).take 0) (v2 :: (ps.map (·.1)).drop 0) (none) (0) (hsw.out.take 0) f b4 hr (fun u hu => h1c.out u (List.mem_of_mem_take hu)) (fun u hu => by
            rcases List.mem_cons.mp hu with rfl | hu
            · exact h2
            · exact h1c.out u (List.mem_of_mem_drop hu)) (by rw [List.length_take, hlm.out]; omega) (by rw [List.length_cons, List.length_drop, hlm.out]; omega)
          have el1 : ((ps.map (·.1)).drop 0).length = 0 := by rw [List.length_drop, hlm.out] <;> omega
          have el2 : ((ps.map (·.1)).take 0).length = 0 := by rw [List.length_take, hlm.out] <;> omega
          have f2 : Fr [] wi wi := Fr.refl _ _
          have GF := hF.trans f2
          obtain ⟨w2, rfl⟩ : ∃ x : World, x = wi := ⟨_, rfl⟩
          replace hlo := Lib.hid hlo; replace hhi := Lib.hid hhi; replace hF := Lib.hid hF; replace hL := Lib.hid hL; replace hins := Lib.hid hins; replace hne := Lib.hid hne; replace ST1 := Lib.hid ST1; replace ST2 := Lib.hid ST2; replace el1 := Lib.hid el1; replace el2 := Lib.hid el2; replace GF := Lib.hid GF; replace f2 := Lib.hid f2
          clear hltI
          go_upto_region 9 with fail
          go_region_held3 (fun w' => True)
            (first | trivial | exact True.intro)
            ((first
              | (obtain ⟨v5, w5, b5, happ, hr5, hb5, f5⟩ := ST1.out w4 (.slice o4 word.length c4) F4.out
                 rw [el1.out] at happ
                 replace hr5 := Lib.hid hr5; replace hb5 := Lib.hid hb5; replace f5 := Lib.hid f5
                 refine step_append_run rfl _ _ _ rfl (v := .slice (some ⟨w4.heap.size, 0, none⟩) 1 1) rfl (xv := .slice none (0) (0)) rfl happ ?_
                 clear happ)
              | (go_at_call 84
                 refine (CC.out _ (by first | exact GF.out.drew | exact GF.out)).mono ?_
                 rintro e w4 ⟨v4, ⟨b4, rfl, hr4, hb4⟩, f4⟩
                 obtain ⟨o4, c4, rfl⟩ := hr4.len
                 have F4 := Lib.hid (GF.out.trans (((Fr.refl [] w2).drew).trans f4))
                 replace hr4 := Lib.hid hr4; replace hb4 := Lib.hid hb4; replace f4 := Lib.hid f4)))
          all_goals
            obtain ⟨v6, w6, v7, w7, b7, happ6, happ7, hr7, f7⟩ := ST2.out w5 (.slice o4 word.length c4) v5 b5 (F4.out.trans f5.out) hr5.out (hr4.out.nin.one1)
            rw [el2.out] at happ6
            have GO := Lib.hid (FIN.out 0 w7 (.slice o4 word.length c4) v7 b7 hL.out hne.out (hr4.out.nin.fr (f5.out.trans f7)) hr4.out.capv ((F4.out.trans f5.out).trans f7) hr7)
            replace happ6 := Lib.hid happ6; replace happ7 := Lib.hid happ7
            clear hr7 f7 ST1 ST2 FIN
            go_wp2_with (first | (at_builtin; refine wpList_append_run _ rfl _ _ _ rfl rfl rfl happ6.out ?_) | (at_builtin; refine wpList_append_run _ rfl _ _ _ rfl rfl rfl happ7.out ?_))
            go_ret
            exact GO.out
        · have hc0 : lo ≤ cap := by have := hN.out; omega
          have hlo0 : 0 < lo := by have := hN.out; omega
          have hc3 : ¬ cap = 0 := by omega
          by_cases hcl : cap = lo
          · obtain ⟨cq, rfl⟩ : ∃ x, x = cap := ⟨_, rfl⟩
            subst hcl
            have ST1 := fun (W2 : World) (v2 : Value) (f : Fr [] w W2) => put_st1 (v2 := v2) ((ps.map (·.1)).drop cq) (some ⟨b, off, none⟩) (0) (fun j hj => by rw [List.length_drop, hlm.out] at hj; omega) f (fun u hu => h1c.out u (List.mem_of_mem_drop hu)) (by rw [List.length_drop, hlm.out]; omega)
            have ST2 := fun (W4 : World) (v2 v4 : Value) (b4 : Option Nat) (f : Fr [] w W4) (hr : Row 1 W4 v4 (v2 :: (ps.map (·.1)).drop cq).length (v2 :: (ps.map (·.1)).drop cq) b4) (h2 : v2.oneCell' = true) => put_st2 (w := w) (W4 := W4) (v4 := v4) ((ps.map (·.1)).take cq) (v2 :: (ps.map (·.1)).drop cq) (some ⟨b, off, none⟩) (cq) (hsw.out.take cq) f b4 hr (fun u hu => h1c.out u (List.mem_of_mem_take hu)) (fun u hu => by
              rcases List.mem_cons.mp hu with rfl | hu
              · exact h2
              · exact h1c.out u (List.mem_of_mem_drop hu)) (by rw [List.length_take, hlm.out]; omega) (by rw [List.length_cons, List.length_drop, hlm.out]; omega)
            have el1 : ((ps.map (·.1)).drop cq).length = 0 := by rw [List.length_drop, hlm.out] <;> omega
            have el2 : ((ps.map (·.1)).take cq).length = cq := by rw [List.length_take, hlm.out] <;> omega
            have f2 : Fr [] wi wi := Fr.refl _ _
            have GF := hF.trans f2
            obtain ⟨w2, rfl⟩ : ∃ x : World, x = wi := ⟨_, rfl⟩
            replace hlo := Lib.hid hlo; replace hhi := Lib.hid hhi; replace hF := Lib.hid hF; replace hL := Lib.hid hL; replace hins := Lib.hid hins; replace hne := Lib.hid hne; replace ST1 := Lib.hid ST1; replace ST2 := Lib.hid ST2; replace el1 := Lib.hid el1; replace el2 := Lib.hid el2; replace GF := Lib.hid GF; replace f2 := Lib.hid f2
            go_upto_region 9 with fail
            go_region_held3 (fun w' => True)
              (first | trivial | exact True.intro)
              ((first
                | (obtain ⟨v5, w5, b5, happ, hr5, hb5, f5⟩ := ST1.out w4 (.slice o4 word.length c4) F4.out
                   rw [el1.out] at happ
                   replace hr5 := Lib.hid hr5; replace hb5 := Lib.hid hb5; replace f5 := Lib.hid f5
                   refine step_append_run rfl _ _ _ rfl (v := .slice (some ⟨w4.heap.size, 0, none⟩) 1 1) rfl (xv := .slice (some ⟨b, off, none⟩) (0) (0)) rfl happ ?_
                   clear happ)
                | (go_at_call 84
                   refine (CC.out _ (by first | exact GF.out.drew | exact GF.out)).mono ?_
                   rintro e w4 ⟨v4, ⟨b4, rfl, hr4, hb4⟩, f4⟩
                   obtain ⟨o4, c4, rfl⟩ := hr4.len
                   have F4 := Lib.hid (GF.out.trans (((Fr.refl [] w2).drew).trans f4))
                   replace hr4 := Lib.hid hr4; replace hb4 := Lib.hid hb4; replace f4 := Lib.hid f4)))
            all_goals
              obtain ⟨v6, w6, v7, w7, b7, happ6, happ7, hr7, f7⟩ := ST2.out w5 (.slice o4 word.length c4) v5 b5 (F4.out.trans f5.out) hr5.out (hr4.out.nin.one1)
              rw [el2.out] at happ6
              have GO := Lib.hid (FIN.out cq w7 (.slice o4 word.length c4) v7 b7 hL.out hne.out (hr4.out.nin.fr (f5.out.trans f7)) hr4.out.capv ((F4.out.trans f5.out).trans f7) hr7)
              replace happ6 := Lib.hid happ6; replace happ7 := Lib.hid happ7
              clear hr7 f7 ST1 ST2 FIN
              go_wp2_with (first | (at_builtin; refine wpList_append_run _ rfl _ _ _ rfl rfl rfl happ6.out ?_) | (at_builtin; refine wpList_append_run _ rfl _ _ _ rfl rfl rfl happ7.out ?_))
              go_ret
              exact GO.out
          · have hc1 : lo < cap := by omega
            have ST1 := fun (W2 : World) (v2 : Value) (f : Fr [] w W2) => put_st1 (v2 := v2) ((ps.map (·.1)).drop lo) (some ⟨b, off + lo, none⟩) (cap - lo) (fun j hj => by rw [List.length_drop, hlm.out] at hj; omega) f (fun u hu => h1c.out u (List.mem_of_mem_drop hu)) (by rw [List.length_drop, hlm.out]; omega)
            have ST2 := fun (W4 : World) (v2 v4 : Value) (b4 : Option Nat) (f : Fr [] w W4) (hr : Row 1 W4 v4 (v2 :: (ps.map (·.1)).drop lo).length (v2 :: (ps.map (·.1)).drop lo) b4) (h2 : v2.oneCell' = true) => put_st2 (w := w) (W4 := W4) (v4 := v4) ((ps.map (·.1)).take lo) (v2 :: (ps.map (·.1)).drop lo) (some ⟨b, off, none⟩) (cap) (hsw.out.take lo) f b4 hr (fun u hu => h1c.out u (List.mem_of_mem_take hu)) (fun u hu => by
              rcases List.mem_cons.mp hu with rfl | hu
              · exact h2
              · exact h1c.out u (List.mem_of_mem_drop hu)) (by rw [List.length_take, hlm.out]; omega) (by rw [List.length_cons, List.length_drop, hlm.out]; omega)
            have el1 : ((ps.map (·.1)).drop lo).length = 0 := by rw [List.length_drop, hlm.out] <;> omega
            have el2 : ((ps.map (·.1)).take lo).length = lo := by rw [List.length_take, hlm.out] <;> omega
            have f2 : Fr [] wi wi := Fr.refl _ _
            have GF := hF.trans f2
            obtain ⟨w2, rfl⟩ : ∃ x : World, x = wi := ⟨_, rfl⟩
            replace hlo := Lib.hid hlo; replace hhi := Lib.hid hhi; replace hF := Lib.hid hF; replace hL := Lib.hid hL; replace hins := Lib.hid hins; replace hne := Lib.hid hne; replace ST1 := Lib.hid ST1; replace ST2 := Lib.hid ST2; replace el1 := Lib.hid el1; replace el2 := Lib.hid el2; replace GF := Lib.hid GF; replace f2 := Lib.hid f2
            go_upto_region 9 with fail
            go_region_held3 (fun w' => True)
              (first | trivial | exact True.intro)
              ((first
                | (obtain ⟨v5, w5, b5, happ, hr5, hb5, f5⟩ := ST1.out w4 (.slice o4 word.length c4) F4.out
                   rw [el1.out] at happ
                   replace hr5 := Lib.hid hr5; replace hb5 := Lib.hid hb5; replace f5 := Lib.hid f5
                   refine step_append_run rfl _ _ _ rfl (v := .slice (some ⟨w4.heap.size, 0, none⟩) 1 1) rfl (xv := .slice (some ⟨b, off + lo, none⟩) (0) (cap - lo)) rfl happ ?_
                   clear happ)
                | (go_at_call 84
                   refine (CC.out _ (by first | exact GF.out.drew | exact GF.out)).mono ?_
                   rintro e w4 ⟨v4, ⟨b4, rfl, hr4, hb4⟩, f4⟩
                   obtain ⟨o4, c4, rfl⟩ := hr4.len
                   have F4 := Lib.hid (GF.out.trans (((Fr.refl [] w2).drew).trans f4))
                   replace hr4 := Lib.hid hr4; replace hb4 := Lib.hid hb4; replace f4 := Lib.hid f4)))
            all_goals
              obtain ⟨v6, w6, v7, w7, b7, happ6, happ7, hr7, f7⟩ := ST2.out w5 (.slice o4 word.length c4) v5 b5 (F4.out.trans f5.out) hr5.out (hr4.out.nin.one1)
              rw [el2.out] at happ6
              have GO := Lib.hid (FIN.out lo w7 (.slice o4 word.length c4) v7 b7 hL.out hne.out (hr4.out.nin.fr (f5.out.trans f7)) hr4.out.capv ((F4.out.trans f5.out).trans f7) hr7)
              replace happ6 := Lib.hid happ6; replace happ7 := Lib.hid happ7
              clear hr7 f7 ST1 ST2 FIN
              go_wp2_with (first | (at_builtin; refine wpList_append_run _ rfl _ _ _ rfl rfl rfl happ6.out ?_) | (at_builtin; refine wpList_append_run _ rfl _ _ _ rfl rfl rfl happ7.out ?_))
              go_ret
              exact GO.out
end Go.Proofs.Ytnggimkkjdipmaa
namespace Go.Proofs.Ytnggimkkjdipmaa
open Go.RowKit
set_option linter.unusedVariables false
set_option linter.unusedSimpArgs false
set_option maxHeartbeats 16000000
set_option maxRecDepth 100000
/-! ### The reference's begins -/
theorem rbegins_any (v1 v2 : Value) (a b : List Int) (w : World) (h1 : NIn w v1 a) (h2 : NIn w v2 b) (hc : CapV (v2, b)) (ha : a.length ≤ 1000000) (hb : b.length ≤ 1000000) :
    Calls Try.prog 85 #[v1, v2] w fun e w' => e = .returned (.bool (isPre a b)) ∧ Fr [] w w' := by
  have h1' := h1
  have h2' := h2
  obtain ⟨o1, c1, rfl, hl1⟩ := h1
  obtain ⟨o2, c2, hv2, hcap⟩ := hc
  dsimp only at hv2 hcap
  subst hv2
  obtain ⟨la, hla⟩ : ∃ x, a.length = x := ⟨_, rfl⟩
  obtain ⟨lb, hlb⟩ : ∃ x, b.length = x := ⟨_, rfl⟩
  by_cases hlt : la < lb
  · have hltI : (la : Int) < (lb : Int) := by omega
    obtain ⟨o', c', e', hl2⟩ := id h2'
    obtain ⟨B, of, e2, _⟩ := hl2 0 (by omega)
    cases e'
    subst e2
    have hcn : ¬ c2 = 0 := by omega
    have hcl : la ≤ c2 := by omega
    have IC := ints_any (.slice o1 a.length c1) (.slice (some ⟨B, of, none⟩) la c2) a (b.take la) w h1' ((h2').take la (by omega)) (by omega)
    have hP : isPre a b = decide (a = b.take la) := by
      unfold isPre
      rw [hla, hlb, decide_eq_true hlt, Bool.true_and]
      exact decide_eq_decide.mpr ⟨fun h => h.symm, fun h => h.symm⟩
    rw [hP]
    obtain ⟨R, hR⟩ : ∃ x, decide (a = b.take la) = x := ⟨_, rfl⟩
    rw [hR] at IC ⊢
    rw [hla] at IC ⊢
    rw [hlb]
    replace h1' := Lib.hid h1'; replace h2' := Lib.hid h2'; replace hl1 := Lib.hid hl1; replace hl2 := Lib.hid hl2; replace IC := Lib.hid IC; replace hP := Lib.hid hP; replace hR := Lib.hid hR; replace hla := Lib.hid hla; replace hlb := Lib.hid hlb
    go_enter Try.func85, Try.ntmps85
    go_wp2_with fail
    refine IC.out.mono ?_
    rintro e w2 ⟨rfl, f2⟩
    replace f2 := Lib.hid f2
    go_wp2_with fail
    go_ret
    exact ⟨rfl, f2.out⟩
  · have hltI : ¬ (la : Int) < (lb : Int) := by omega
    have hP : isPre a b = false := by
      unfold isPre
      rw [hla, hlb, decide_eq_false hlt, Bool.false_and]
    rw [hP, hla, hlb]
    replace h1' := Lib.hid h1'; replace h2' := Lib.hid h2'; replace hl1 := Lib.hid hl1; replace hP := Lib.hid hP; replace hla := Lib.hid hla; replace hlb := Lib.hid hlb
    go_enter Try.func85, Try.ntmps85
    go_wp2_with fail
    go_ret
    exact ⟨rfl, Fr.refl _ _⟩
/-- The words that are left, one by one. -/
theorem pre_later {l : List (List Int)} (hA : Asc l) (i : Nat) (hi : i < l.length) : (l.any fun x => isPre l[i] x) = ((l.drop (i + 1)).any fun x => isPre l[i] x) := by
  have hb : ∀ j (h : j < l.length), j ≤ i → isPre l[i] l[j] = false := fun j h hj => by
    unfold isPre
    have : ¬ l[i].length < l[j].length := by
      rcases Nat.lt_or_ge j i with h1 | h1
      · have h2 := List.pairwise_iff_getElem.mp hA j i h hi h1
        unfold byLen at h2
        split at h2
        · rename_i h3
          have := (cmpI_eq _ _).mp h3
          omega
        · have := (cmpI_lt _ _).mp h2
          omega
      · obtain rfl : j = i := by omega
        omega
    rw [decide_eq_false this, Bool.false_and]
  rw [Bool.eq_iff_iff, List.any_eq_true, List.any_eq_true]
  constructor
  · rintro ⟨x, hx, hp⟩
    obtain ⟨j, hj, rfl⟩ := List.getElem_of_mem hx
    have hji : i < j := by
      rcases Nat.lt_or_ge i j with h | h
      · exact h
      · rw [hb j hj h] at hp; cases hp
    refine ⟨l[j], ?_, hp⟩
    rw [List.mem_drop_iff_getElem]
    exact ⟨j - (i + 1), by omega, by congr 1; omega⟩
  · rintro ⟨x, hx, hp⟩
    exact ⟨x, List.mem_of_mem_drop hx, hp⟩
theorem whole_take (l : List (List Int)) (i : Nat) (hi : i < l.length) : (l.take (i + 1)).filter (fun w => !(l.any fun x => isPre w x)) = (l.take i).filter (fun w => !(l.any fun x => isPre w x)) ++ if (l.any fun x => isPre l[i] x) then [] else [l[i]] := by
  rw [List.take_succ_eq_append_getElem hi, List.filter_append]
  congr 1
  cases h : (l.any fun x => isPre l[i] x) <;> simp [h]
end Go.Proofs.Ytnggimkkjdipmaa
namespace Go.Proofs.Ytnggimkkjdipmaa
open Go.RowKit
set_option linter.unusedVariables false
set_option linter.unusedSimpArgs false
set_option maxHeartbeats 16000000
set_option maxRecDepth 100000
/-! ### The reference's Suite, its parts -/
structure PuI (wr : World) (v : Value) (ps : List (Value × List Int)) (L : List (List Int)) : Prop where
  ws : WSl wr v ps
  eq : wds ps = onceF L
  cap : ∀ p ∈ ps, CapV p
  sh : ∀ x ∈ L, x.length ≤ 200
theorem onceF_len (l : List (List Int)) : (onceF l).length ≤ l.length := by
  have h0 : ∀ (l a : List (List Int)), (l.foldl (fun a w => insW w a) a).length ≤ l.length + a.length := by
    intro l
    induction l with
    | nil => intro a; simp
    | cons w l ih =>
      intro a
      have h1 := ih (insW w a)
      have h2 := insW_len w a
      simp only [List.foldl_cons, List.length_cons]
      omega
  have := h0 l []
  unfold onceF
  simpa using this
variable {wr : World} {v : Value} {ps : List (Value × List Int)} {L : List (List Int)}
theorem PuI.asc (h : PuI wr v ps L) : Asc (wds ps) := by rw [h.eq]; exact onceF_asc L
theorem PuI.mem (h : PuI wr v ps L) {p : Value × List Int} (hp : p ∈ ps) : p.2 ∈ L := by
  have : p.2 ∈ wds ps := by unfold wds; exact List.mem_map.mpr ⟨p, hp, rfl⟩
  rw [h.eq, onceF_mem] at this
  exact this
theorem PuI.short (h : PuI wr v ps L) : ∀ p ∈ ps, p.2.length ≤ 200 := fun p hp => h.sh _ (h.mem hp)
theorem PuI.len (h : PuI wr v ps L) : ps.length ≤ L.length := by
  have := congrArg List.length h.eq
  unfold wds at this
  rw [List.length_map] at this
  rw [this]; exact onceF_len L
theorem PuI.fr (h : PuI wr v ps L) {W : World} (f : Fr [] wr W) : PuI W v ps L := ⟨h.ws.fr f, h.eq, h.cap, h.sh⟩
theorem PuI.put (h : PuI wr v ps L) {word : List Int} (hw : word.length ≤ 200) {w' : World} {v' : Value} {ps' : List (Value × List Int)} (he : wds ps' = insW word (wds ps)) (hW : WSl w' v' ps') (hc : ∀ p ∈ ps', p ∈ ps ∨ CapV p) : PuI w' v' ps' (L ++ [word]) := by
  refine ⟨hW, by rw [he, h.eq, onceF_snoc], fun p hp => ?_, fun x hx => ?_⟩
  · rcases hc p hp with h1 | h1
    · exact h.cap p h1
    · exact h1
  · rcases List.mem_append.mp hx with hx | hx
    · exact h.sh x hx
    · simp at hx; subst hx; exact hw
theorem PuI.nil (w : World) : PuI w (.slice none 0 0) [] [] := ⟨⟨.inl ⟨rfl, rfl⟩, by simp⟩, rfl, by simp, by simp⟩
theorem cover_short {M : Tb} (hM : VT M) {c : List Int} (hc : c ∈ coverL M) : c.length ≤ 30 := by
  have hst := hM.st
  unfold coverL at hc
  obtain ⟨s, hs, rfl⟩ := List.mem_map.mp hc
  by_cases hm : (s : Int) ∈ keyW (walkT M)
  · obtain ⟨p, hp, _, e⟩ := lookW_get _ _ hm
    rw [← e]
    obtain ⟨hok, _, _⟩ := walkF_law hM 40 0 _ rfl (WOk.start hM) ⟨[], rfl⟩ (fun k hk hki => by omega)
    obtain ⟨k, hk, rfl⟩ := List.getElem_of_mem hp
    have h1 : (walkT M)[k].2.length ≤ k := hok.len k hk
    have h2 := hok.le
    have h3 : k < (walkF M 40 0 [(M.sr, [])]).length := hk
    omega
  · rw [lookW_none _ _ hm]; simp
/-- The heads of the first words. -/
def hAll (cs : List (List Int)) (m i : Nat) : List (List Int) := (cs.take i).flatMap (headsL m)
theorem hAll_succ (cs : List (List Int)) (m i : Nat) (h : i < cs.length) : hAll cs m (i + 1) = hAll cs m i ++ headsL m cs[i] := by
  unfold hAll
  rw [List.take_succ_eq_append_getElem h, List.flatMap_append]; simp
theorem sum_rep : ∀ (i k : Nat), (List.replicate i k).sum = i * k
  | 0, k => by simp
  | i + 1, k => by rw [List.replicate_succ, List.sum_cons, sum_rep i k, Nat.succ_mul]; omega
theorem hAll_len (cs : List (List Int)) (m i : Nat) (h : i ≤ cs.length) : (hAll cs m i).length = i * (m + 1) := by
  unfold hAll
  rw [List.length_flatMap]
  have : (cs.take i).map (fun a => (headsL m a).length) = List.replicate i (m + 1) := by
    rw [List.eq_replicate_iff]
    refine ⟨by rw [List.length_map, List.length_take]; omega, fun b hb => ?_⟩
    obtain ⟨x, _, rfl⟩ := List.mem_map.mp hb
    exact headsL_len m x
  rw [this]; exact sum_rep _ _
/-- What is put into the whole list. -/
def aAll (hs tl : List (List Int)) (i : Nat) : List (List Int) := (hs.take i).flatMap fun h => tl.map fun w => h ++ w
theorem aAll_succ (hs tl : List (List Int)) (i : Nat) (h : i < hs.length) : aAll hs tl (i + 1) = aAll hs tl i ++ tl.map fun w => hs[i] ++ w := by
  unfold aAll
  rw [List.take_succ_eq_append_getElem h, List.flatMap_append]; simp
theorem aAll_len (hs tl : List (List Int)) (i : Nat) (h : i ≤ hs.length) : (aAll hs tl i).length = i * tl.length := by
  unfold aAll
  rw [List.length_flatMap]
  have : (hs.take i).map (fun a => (tl.map fun w => a ++ w).length) = List.replicate i tl.length := by
    rw [List.eq_replicate_iff]
    refine ⟨by rw [List.length_map, List.length_take]; omega, fun b hb => ?_⟩
    obtain ⟨x, _, rfl⟩ := List.mem_map.mp hb
    simp
  rw [this]; exact sum_rep _ _
/-- The reference's words are those of the program. -/
theorem suite_same (M : Tb) (tl : List (List Int)) (m : Nat) (hm : M.ev.toNat = m) (hs : List (List Int)) (hh : hs = onceF (hAll (coverL M) m (coverL M).length)) :
    onceF (hAll (coverL M) m (coverL M).length ++ aAll hs tl hs.length) = onceF ((coverL M).flatMap (sWords M.ev.toNat tl)) := by
  have hH : ∀ x, x ∈ hs ↔ x ∈ hAll (coverL M) m (coverL M).length := fun x => by rw [hh, onceF_mem]
  refine once_congr fun x => ?_
  have e1 : hAll (coverL M) m (coverL M).length = (coverL M).flatMap (headsL m) := by unfold hAll; rw [List.take_length]
  rw [hm]
  rw [List.mem_append]
  rw [e1] at hH ⊢
  unfold aAll
  rw [List.take_length]
  simp only [List.mem_flatMap, List.mem_map]
  constructor
  · rintro (⟨c, hc, hx⟩ | ⟨h, hh, w, hw, rfl⟩)
    · refine ⟨c, hc, ?_⟩
      rw [sWords_eq]
      unfold sHead
      rw [List.mem_flatMap]
      exact ⟨x, hx, List.mem_map.mpr ⟨[], by simp, by simp⟩⟩
    · obtain ⟨c, hc, hx⟩ := List.mem_flatMap.mp ((hH h).mp hh)
      refine ⟨c, hc, ?_⟩
      rw [sWords_eq]
      unfold sHead
      rw [List.mem_flatMap]
      exact ⟨h, hx, List.mem_map.mpr ⟨w, by simp [hw], rfl⟩⟩
  · rintro ⟨c, hc, hx⟩
    rw [sWords_eq] at hx
    unfold sHead at hx
    obtain ⟨h, hh, hx⟩ := List.mem_flatMap.mp hx
    obtain ⟨w, hw, rfl⟩ := List.mem_map.mp hx
    rcases List.mem_cons.mp hw with rfl | hw
    · exact .inl ⟨c, hc, by simpa using hh⟩
    · exact .inr ⟨h, (hH h).mpr (List.mem_flatMap.mpr ⟨c, hc, hh⟩), w, hw, rfl⟩
theorem WSl.srcw {w : World} {v : Value} {ps : List (Value × List Int)} (h : WSl w v ps) : ∃ o c, v = .slice o ps.length c ∧ SrcW w o (ps.map (·.1)) := by
  rcases h.1 with ⟨rfl, rfl⟩ | ⟨b, off, cap, rfl, _, _, h6, h7⟩
  · exact ⟨none, 0, rfl, fun j hj => by simp at hj⟩
  · exact ⟨_, cap, rfl, fun j hj => ⟨b, off, rfl, h6, by rw [h7 j (by simpa using hj)]; simp⟩⟩
theorem row_sin {w : World} {v : Value} {ks : List (Value × List Int)} {bo : Option Nat} (h : Row 1 w v ks.length (ks.map (·.1)) bo) (he : ∀ p ∈ ks, NIn w p.1 p.2) : SIn w v (wds ks) := by
  unfold wds
  rcases h with ⟨_, h2, _, o, rfl⟩ | ⟨b, off, cap, hb, rfl, h3, h4, h5, h6, h7⟩
  · exact ⟨o, 0, by rw [List.length_map, h2], fun i hi => by rw [List.length_map] at hi; omega⟩
  · refine ⟨_, cap, by rw [List.length_map], fun i hi => ?_⟩
    have hi' : i < ks.length := by simpa using hi
    refine ⟨b, off, ks[i].1, rfl, h4, ?_, ?_⟩
    · rw [h7 i (by omega)]; simp [hi']
    · have := he ks[i] (List.getElem_mem hi')
      simpa using this
/-- What is left so far. -/
structure OuI (w2 : World) (ps : List (Value × List Int)) (wr : World) (v : Value) (ks : List (Value × List Int)) (b4 : Option Nat) (i : Nat) : Prop where
  row : Row 1 wr v ks.length (ks.map (·.1)) b4
  sub : ∀ p ∈ ks, p ∈ ps
  eq : wds ks = ((wds ps).take i).filter (fun w => !((wds ps).any fun x => isPre w x))
  len : ks.length ≤ i
  new : ∀ z, b4 = some z → w2.heap.size ≤ z
  fr : Fr [] w2 wr
theorem wds_get {ps : List (Value × List Int)} (i : Nat) (h : i < ps.length) : ∃ h' : i < (wds ps).length, (wds ps)[i] = ps[i].2 := by
  refine ⟨by unfold wds; rw [List.length_map]; exact h, ?_⟩
  unfold wds
  rw [List.getElem_map]
theorem OuI.skip {w2 : World} {ps : List (Value × List Int)} {wr : World} {v : Value} {ks : List (Value × List Int)} {b4 : Option Nat} {i : Nat} (h : OuI w2 ps wr v ks b4 i) {W : World} (f : Fr [] wr W) (hi : i < ps.length) (hn : ((wds ps).any fun x => isPre ps[i].2 x) = true) : OuI w2 ps W v ks b4 (i + 1) := by
  obtain ⟨h1, h2⟩ := wds_get i hi
  refine ⟨h.row.fr f (by simp), h.sub, ?_, by have := h.len; omega, h.new, h.fr.trans f⟩
  rw [whole_take _ i h1, h2, hn, h.eq]; simp
theorem OuI.add {w2 : World} {ps : List (Value × List Int)} {wr : World} {v : Value} {ks : List (Value × List Int)} {b4 : Option Nat} {i : Nat} (h : OuI w2 ps wr v ks b4 i) {W : World} (f : Fr [] wr W) (hi : i < ps.length) (hn : ((wds ps).any fun x => isPre ps[i].2 x) = false) (hl : i ≤ 1000000) (h1c : ps[i].1.oneCell' = true) :
    ∃ v' w' b', (Builtin.append_ #[53, 53] 53 #[v, .slice (some ⟨W.heap.size, 0, none⟩) 1 1]).run Try.prog (W.alloc (.cells #[ps[i].1] 25)) = .ok v' w' ∧ OuI w2 ps w' v' (ks ++ [ps[i]]) b' (i + 1) := by
  obtain ⟨h1, h2⟩ := wds_get i hi
  have hln : (ks.map (·.1)).length = ks.length := List.length_map _
  have hr : Row 1 W v (ks.map (·.1)).length (ks.map (·.1)) b4 := by rw [hln]; exact h.row.fr f (by simp)
  obtain ⟨v', w', b', happ, hr', hb', f'⟩ := hr.oneWs (by have := h.len; omega) ps[i].1 h1c
  have s1 := h.fr.size
  have s2 := f.size
  refine ⟨v', w', b', happ, by simpa using hr', fun p hp => ?_, ?_, by simp; have := h.len; omega, fun z hz => ?_, (h.fr.trans f).step f' (fun z hz => .inr (h.new z (by simpa using hz)))⟩
  · rcases List.mem_append.mp hp with hp | hp
    · exact h.sub p hp
    · simp at hp; subst hp; exact List.getElem_mem hi
  · rw [whole_take _ i h1, h2, hn]
    have := h.eq
    unfold wds at *
    rw [List.map_append, this]; simp
  · rcases hb' with e | ⟨z', e, hz'⟩
    · exact h.new z (by rw [← e]; exact hz)
    · rw [hz] at e; cases e; omega
end Go.Proofs.Ytnggimkkjdipmaa
namespace Go.Proofs.Ytnggimkkjdipmaa
open Go.RowKit
set_option linter.unusedVariables false
set_option linter.unusedSimpArgs false
set_option maxHeartbeats 16000000
set_option maxRecDepth 100000
theorem rSuite_any (T : Tb) (v : Value) (w : World) (hT : TIn w v T) :
    Calls Try.prog 47 #[v] w (CvR (suiteF T).1 (suiteF T).2 w) := by
  obtain ⟨r, rfl, hR⟩ := hT
  rw [show T.val r = .agg #[.int .i64 T.st, .int .i64 T.ev, .int .i64 T.sr, r] from rfl]
  have VA : ∀ W, Fr [] w W → Calls Try.prog 20 #[.agg #[.int .i64 T.st, .int .i64 T.ev, .int .i64 T.sr, r]] W fun e w' => e = .returned (.bool (validT T)) ∧ Fr [] W w' := fun W f => rvalid_any T _ W ⟨r, rfl, hR.fr f⟩
  obtain ⟨⟨X, z⟩, hX⟩ : ∃ x, suiteF T = x := ⟨_, rfl⟩
  rw [hX]
  dsimp only
  obtain ⟨w1, hw1⟩ : ∃ x, w.alloc (.cells #[.int .i64 T.st, .int .i64 T.ev, .int .i64 T.sr, r] RTab) = x := ⟨_, rfl⟩
  have P1 := Pt.newA w RTab #[.int .i64 T.st, .int .i64 T.ev, .int .i64 T.sr, r]
  rw [hw1] at P1
  have F1 : Fr [] w w1 := by rw [← hw1]; exact (Fr.refl [] w).alloc _
  obtain ⟨b1, hb1⟩ : ∃ x, w.heap.size = x := ⟨_, rfl⟩
  rw [hb1] at P1
  have k1 := P1.cell
  replace hR := Lib.hid hR; replace VA := Lib.hid VA; replace hX := Lib.hid hX; replace P1 := Lib.hid P1; replace F1 := Lib.hid F1
  go_enter Try.func47, Try.ntmps47
  go_wp2_with fail
  refine (VA.out _ F1.out).mono ?_
  rintro e w4 ⟨rfl, f4⟩
  have F4 := F1.out.trans f4
  have p1 := f4.pt P1.out (by simp)
  clear k1 hb1 hw1
  cases hv : validT T
  · have hx := hX.out
    unfold suiteF at hx
    rw [hv] at hx
    obtain ⟨rfl, rfl⟩ : [] = X ∧ 1 = z := by simpa using hx
    clear hx
    have GO : CvR [] 1 w (.returned (.tuple #[.slice none 0 0, .int .i64 1])) w4 := ⟨_, rfl, ⟨none, 0, rfl, fun i hi => by simp at hi⟩, F4⟩
    replace hv := Lib.hid hv; replace F4 := Lib.hid F4; replace f4 := Lib.hid f4; replace p1 := Lib.hid p1; replace GO := Lib.hid GO
    go_wp2_with fail
    refine bodyPost_ret (v := .tuple #[.slice none 0 0, .int .i64 1]) (by simp [results, Try.results47, go_sem]) rfl GO.out
  · have hV := (validT_iff T).mp hv
    have hx := hX.out
    unfold suiteF at hx
    rw [hv, if_pos rfl] at hx
    have LE := rleast_any T _ w4 ⟨r, rfl, hR.out.fr F4⟩ hV
    rw [show T.val r = .agg #[.int .i64 T.st, .int .i64 T.ev, .int .i64 T.sr, r] from rfl] at LE
    have hLV := least_valid hV
    obtain ⟨M, hM⟩ : ∃ x, leastT T = x := ⟨_, rfl⟩
    unfold RlR at LE
    rw [hM] at LE hLV hx
    have CE : ∀ r' W, RIn W r' M.rows → Calls Try.prog 76 #[.agg #[.int .i64 M.st, .int .i64 M.ev, .int .i64 M.sr, r']] W (PutR (coverL M) W) := fun r' W h => rcover_any M r' W h hLV
    have TE : ∀ r' W, RIn W r' M.rows → Calls Try.prog 78 #[.agg #[.int .i64 M.st, .int .i64 M.ev, .int .i64 M.sr, r']] W (PutR (tellsOf M) W) := fun r' W h => rtell_any M r' W h hLV
    obtain ⟨n, hn⟩ : ∃ n : Nat, M.st.toNat = n := ⟨_, rfl⟩
    obtain ⟨m, hm⟩ : ∃ n : Nat, M.ev.toNat = n := ⟨_, rfl⟩
    have hst := hLV.st
    have hev := hLV.ev
    have hnI : M.st = (n : Int) := by omega
    have hmI : M.ev = (m : Int) := by omega
    have hm12 : m ≤ 12 := by omega
    have hn30 : n ≤ 30 := by omega
    have hn1 : 1 ≤ n := by omega
    have c1 := p1.cell
    clear hX
    replace hv := Lib.hid hv; replace hV := Lib.hid hV; replace hx := Lib.hid hx; replace F4 := Lib.hid F4; replace f4 := Lib.hid f4; replace p1 := Lib.hid p1; replace LE := Lib.hid LE; replace CE := Lib.hid CE; replace TE := Lib.hid TE; replace hn := Lib.hid hn; replace hm := Lib.hid hm; replace hnI := Lib.hid hnI; replace hmI := Lib.hid hmI; replace hst := Lib.hid hst; replace hev := Lib.hid hev; replace hLV := Lib.hid hLV; replace hM := Lib.hid hM
    go_wp2_with fail
    refine LE.out.mono ?_
    rintro e w7 ⟨rv, rfl, hRB, f7⟩
    have F7 := F4.out.trans f7
    have hRI := hRB.rin
    obtain ⟨orv, crv, hrv, _⟩ := hRI
    rw [show M.rows.length = n by have := hLV.out.rows; have := hnI.out; omega] at hrv
    subst hrv
    obtain ⟨w8, hw8⟩ : ∃ x, w7.alloc (.cells #[.int .i64 M.st, .int .i64 M.ev, .int .i64 M.sr, .slice orv n crv] RTab) = x := ⟨_, rfl⟩
    have P8 := Pt.newA w7 RTab #[.int .i64 M.st, .int .i64 M.ev, .int .i64 M.sr, .slice orv n crv]
    rw [hw8] at P8
    have F8 : Fr [] w7 w8 := by rw [← hw8]; exact (Fr.refl [] w7).alloc _
    obtain ⟨b8, hb8⟩ : ∃ x, w7.heap.size = x := ⟨_, rfl⟩
    rw [hb8] at P8
    have C3 := CE.out (.slice orv n crv) w8 (hRB.rin.fr F8)
    have k8 := P8.cell
    clear c1
    replace hRB := Lib.hid hRB; replace f7 := Lib.hid f7; replace F7 := Lib.hid F7; replace C3 := Lib.hid C3; replace P8 := Lib.hid P8; replace F8 := Lib.hid F8
    go_wp2_with fail
    refine C3.out.mono ?_
    rintro e w9 ⟨v9, cps, rfl, hcw, hcW, f9⟩
    have F9 := (F7.out.trans F8.out).trans f9
    clear k8 hb8 hw8
    have hcl : cps.length = n := by
      have h1 := congrArg List.length hcw
      unfold wds coverL at h1
      rw [List.length_map, List.length_map, List.length_range, hn.out] at h1
      exact h1
    have hcsh : ∀ p ∈ cps, p.2.length ≤ 30 := fun p hp => by
      refine cover_short hLV.out ?_
      rw [← hcw]
      unfold wds
      exact List.mem_map.mpr ⟨p, hp, rfl⟩
    obtain ⟨⟨bC, oC, cC, rfl, hc0, hcc, hbC, hcC⟩, hcN⟩ : (∃ b off cap, v9 = .slice (some ⟨b, off, none⟩) cps.length cap ∧ 0 < cps.length ∧ cps.length ≤ cap ∧ b < w9.heap.size ∧ ∀ i (h : i < cps.length), w9.cell? ⟨b, off + i, none⟩ = some cps[i].1) ∧ ∀ p ∈ cps, NIn w9 p.1 p.2 := by
      refine ⟨?_, hcW.2⟩
      rcases hcW.1 with ⟨h1, _⟩ | h1
      · rw [h1] at hcl; simp at hcl; omega
      · exact h1
    rw [hcl]
    have QB := fun (W : World) (f : Fr [] w9 W) => ((f9.trans f).pt P8.out (by simp)).cell
    have hcs : (coverL M).length = n := by unfold coverL; rw [List.length_map, List.length_range, hn.out]
    have hci : ∀ i (h : i < n), ∃ (h1 : i < (coverL M).length) (h2 : i < cps.length), cps[i].2 = (coverL M)[i] := fun i h => by
      have h1 : i < (coverL M).length := by omega
      have h2 : i < cps.length := by omega
      refine ⟨h1, h2, ?_⟩
      have h3 : (wds cps)[i]? = (coverL M)[i]? := by rw [hcw]
      unfold wds at h3
      rw [List.getElem?_map, List.getElem?_eq_getElem h2, List.getElem?_eq_getElem h1] at h3
      simpa using h3
    clear hc0 hcc
    obtain ⟨cs, hcsE⟩ : ∃ x, coverL M = x := ⟨_, rfl⟩
    rw [hcsE] at hci hcs
    replace F9 := Lib.hid F9; replace f9 := Lib.hid f9; replace hcw := Lib.hid hcw; replace hcW := Lib.hid hcW; replace hcl := Lib.hid hcl; replace hcsh := Lib.hid hcsh; replace hbC := Lib.hid hbC; replace hcC := Lib.hid hcC; replace hcN := Lib.hid hcN; replace QB := Lib.hid QB; replace hcs := Lib.hid hcs; replace hci := Lib.hid hci; replace hcsE := Lib.hid hcsE
    go_wp2_with fail
    go_loopg [5, 7] (n + 1) (fun kk v5 v7 wr => ∃ (i : Nat) (hps : List (Value × List Int)), i ≤ n ∧ kk + i = n + 1 ∧ v7 = .int .i64 i ∧ PuI wr v5 hps (hAll cs m i) ∧ Fr [] w9 wr)
    case atStart => exact ⟨0, [], by omega, by omega, by go_num, PuI.nil _, Fr.refl _ _⟩
    case round =>
      obtain ⟨i, hps, hi, hk, rfl, hI, hF⟩ := hrel
      obtain ⟨wi, rfl⟩ : ∃ x : World, x = wr := ⟨_, rfl⟩
      obtain ⟨gi, rfl⟩ : ∃ g : Nat, g = gk := ⟨_, rfl⟩
      by_cases hlt : i < n
      · as_aux_lemma =>
        have hltI : (i : Int) < (n : Int) := by omega
        obtain ⟨h1, h2, h3⟩ := hci.out i hlt
        have hmc := List.getElem_mem h2
        have c1 := (hF.cell (p := ⟨bC, oC + i, none⟩) hbC.out (by simp)).trans (hcC.out i h2)
        have nC := hcN.out _ hmc
        have shC := hcsh.out _ hmc
        obtain ⟨⟨cv, c⟩, hpc⟩ : ∃ x, cps[i] = x := ⟨_, rfl⟩
        rw [hpc] at h3 c1 nC shC
        dsimp only at h3 c1 nC shC
        obtain ⟨oc, cc, rfl, _⟩ := id nC
        have hlen := hI.len
        rw [hAll_len cs m i (by have := hcs.out; omega)] at hlen
        have him : i * (m + 1) ≤ 30 * 13 := Nat.mul_le_mul (by omega) (by omega)
        have PC := rputc_any u5 _ hps c wi hI.ws (nC.fr hF) hI.asc (by omega) (by omega) (fun p hp => by have := hI.short p hp; omega)
        have hsucc := hAll_succ cs m i h1
        rw [← h3] at hsucc
        replace hI := Lib.hid hI; replace hF := Lib.hid hF; replace h3 := Lib.hid h3; replace hmc := Lib.hid hmc; replace nC := Lib.hid nC; replace shC := Lib.hid shC; replace hpc := Lib.hid hpc; replace hlen := Lib.hid hlen; replace him := Lib.hid him; replace PC := Lib.hid PC; replace hsucc := Lib.hid hsucc
        go_wp2_with fail
        refine PC.out.mono ?_
        rintro e w10 ⟨v10, ps10, rfl, he10, hW10, hc10, f10⟩
        have J0 : PuI w10 v10 ps10 (hAll cs m i ++ headsTo c 0) := hI.out.put (by have := shC.out; omega) he10 hW10 hc10
        have G10 := hF.out.trans f10
        clear c1
        replace he10 := Lib.hid he10; replace hW10 := Lib.hid hW10; replace hc10 := Lib.hid hc10; replace f10 := Lib.hid f10; replace J0 := Lib.hid J0; replace G10 := Lib.hid G10
        go_wp2_with fail
        go_loopg [5, 8] (m + 1) (fun kk v5 v8 wr => ∃ (e : Nat) (hps : List (Value × List Int)), e ≤ m ∧ kk + e = m + 1 ∧ v8 = .int .i64 e ∧ PuI wr v5 hps (hAll cs m i ++ headsTo c e) ∧ Fr [] w9 wr)
        case atStart => exact ⟨0, _, by omega, by omega, by go_num, J0.out, G10.out⟩
        case round =>
          obtain ⟨e, hps, he, hk2, rfl, hI, hF⟩ := hrel
          obtain ⟨we, rfl⟩ : ∃ x : World, x = wr := ⟨_, rfl⟩
          have kq : we.cell? ⟨b8, 1, none⟩ = some (.int .i64 M.ev) := QB.out we hF 1
          by_cases hlt2 : e < m
          · have hltI2 : (e : Int) < M.ev := by rw [hmI.out]; omega
            have c1 := (hF.cell (p := ⟨bC, oC + i, none⟩) hbC.out (by simp)).trans (hcC.out i h2)
            rw [hpc.out] at c1
            dsimp only at c1
            have CC := rcopy_any _ c we (nC.out.fr hF) (by have := shC.out; omega)
            have hlen2 := hI.len
            rw [List.length_append, hAll_len cs m i (by have := hcs.out; omega)] at hlen2
            have hht : (headsTo c e).length = e + 1 := by simp [headsTo]
            rw [hht] at hlen2
            have hsh := shC.out
            replace hI := Lib.hid hI; replace hF := Lib.hid hF; replace CC := Lib.hid CC; replace hlen2 := Lib.hid hlen2; replace hht := Lib.hid hht
            go_wp2_with fail
            refine CC.out.mono ?_
            rintro e9 w11 ⟨v11, b11, rfl, hr11, hb11, f11⟩
            obtain ⟨v12, w12, b12, happ, hr12, hb12, f12⟩ := hr11.one (by omega) (e : Int)
            have F12 : Fr [] we w12 := f11.step f12 (fun z hz => .inr (hb11 z (by simpa using hz)))
            have hcl2 : (c ++ [(e : Int)]).length = c.length + 1 := by simp
            have PC2 := rputc_any u5 v12 hps (c ++ [(e : Int)]) w12 (hI.out.ws.fr F12) hr12.nin hI.out.asc (by have := hlen2.out; have := him.out; omega) (by rw [hcl2]; omega) (fun p hp => by have := hI.out.short p hp; omega)
            obtain ⟨o11, c11, rfl⟩ := hr11.len
            obtain ⟨o12, c12, hv12⟩ := hr12.len
            rw [hcl2] at hv12
            subst hv12
            replace hr11 := Lib.hid hr11; replace hb11 := Lib.hid hb11; replace f11 := Lib.hid f11; replace happ := Lib.hid happ; replace hr12 := Lib.hid hr12; replace hb12 := Lib.hid hb12; replace f12 := Lib.hid f12; replace F12 := Lib.hid F12; replace hcl2 := Lib.hid hcl2; replace PC2 := Lib.hid PC2
            go_wp2_with (first | (at_builtin; refine wpList_append_run _ rfl _ _ _ rfl rfl rfl happ.out ?_))
            refine PC2.out.mono ?_
            rintro e9 w13 ⟨v13, ps13, rfl, he13, hW13, hc13, f13⟩
            have NE : PuI w13 v13 ps13 (hAll cs m i ++ headsTo c (e + 1)) := by
              rw [headsTo_succ, ← List.append_assoc]
              exact (hI.out.fr F12.out).put (by rw [hcl2.out]; omega) he13 hW13 hc13
            have NF := (hF.out.trans F12.out).trans f13
            replace he13 := Lib.hid he13; replace hW13 := Lib.hid hW13; replace hc13 := Lib.hid hc13; replace f13 := Lib.hid f13; replace NE := Lib.hid NE; replace NF := Lib.hid NF
            go_wp2_with fail
            go_roundg (gk - 1)
            case measure => omega
            case rel => exact ⟨e + 1, _, by omega, by omega, by go_num, NE.out, NF.out⟩
          · obtain rfl : e = m := by omega
            have hltI2 : ¬ (e : Int) < M.ev := by rw [hmI.out]; omega
            have NE : PuI we u5 hps (hAll cs e (i + 1)) := by rw [hsucc.out, ← headsTo_all]; exact hI
            replace hI := Lib.hid hI; replace hF := Lib.hid hF; replace NE := Lib.hid NE
            go_wp2_with fail
            go_roundg (gi - 1)
            case measure => omega
            case rel => exact ⟨i + 1, _, by omega, by omega, by go_num, NE.out, hF.out⟩
      · obtain rfl : i = n := by omega
        have hltI : ¬ (i : Int) < (i : Int) := by omega
        obtain ⟨oH, cH, rfl, hsw⟩ := hI.ws.srcw
        have hlm : (hps.map (·.1)).length = hps.length := List.length_map _
        have hHl := hAll_len cs m i (by have := hcs.out; omega)
        have hHb : i * (m + 1) ≤ 30 * 13 := Nat.mul_le_mul (by omega) (by omega)
        have hlen := hI.len
        have hpos : 0 < hps.length := by
          have h1 : 0 < (hAll cs m i).length := by
            rw [hHl]
            exact Nat.mul_pos (by omega) (by omega)
          obtain ⟨x, hx9⟩ := List.exists_mem_of_length_pos h1
          have h2 : x ∈ wds hps := by rw [hI.eq, onceF_mem]; exact hx9
          unfold wds at h2
          obtain ⟨p, hp, _⟩ := List.mem_map.mp h2
          exact List.length_pos_of_mem hp
        have f13 : Fr [] wi (wi.alloc (.cells #[] 25)) := (Fr.refl [] wi).alloc _
        obtain ⟨v14, w14, b14, happ, hr14, hb14, f14⟩ := (Row.nil 1 (wi.alloc (.cells #[] 25)) (some ⟨wi.heap.size, 0, none⟩)).appS (us := []) (hps.map (·.1)) (by simp; omega) oH cH (fun j hj => by
          obtain ⟨b, off, e, _, hc⟩ := (hsw.fr f13) j hj
          exact ⟨b, off, e, hc⟩) (fun u hu => by
          obtain ⟨p, hp, rfl⟩ := List.mem_map.mp hu
          exact (hI.ws.2 p hp).one1)
        have F14 : Fr [] wi w14 := f13.trans (f14.mono (by simp))
        rw [hlm] at happ
        rw [List.nil_append, hlm] at hr14
        have A0 : PuI w14 v14 hps (hAll cs m i) := ⟨hr14.wsl hpos (fun p hp => (hI.ws.2 p hp).fr F14), hI.eq, hI.cap, hI.sh⟩
        have C15 := TE.out (.slice orv i crv) w14 (hRB.out.rin.fr (((F8.out.trans f9.out).trans hF).trans F14))
        have kq := QB.out w14 (hF.trans F14)
        have hwi := hI.ws
        have hwe := hI.eq
        have hshH : ∀ p ∈ hps, p.2.length ≤ 31 := fun p hp => by
          have h1 := hI.mem hp
          unfold hAll at h1
          obtain ⟨c, hc, h2⟩ := List.mem_flatMap.mp h1
          have h3 := headsL_lens h2
          have h4 := cover_short hLV.out (c := c) (by rw [hcsE.out]; exact List.mem_of_mem_take hc)
          omega
        obtain ⟨hn2, hhn⟩ : ∃ x, hps.length = x := ⟨_, rfl⟩
        rw [hhn] at happ ⊢
        have hhb : hn2 ≤ 390 := by omega
        have hhp : 0 < hn2 := by omega
        replace hI := Lib.hid hI; replace hF := Lib.hid hF; replace hsw := Lib.hid hsw; replace hlm := Lib.hid hlm; replace hHl := Lib.hid hHl; replace hHb := Lib.hid hHb; replace hlen := Lib.hid hlen; replace hpos := Lib.hid hpos; replace f13 := Lib.hid f13; replace happ := Lib.hid happ; replace hr14 := Lib.hid hr14; replace hb14 := Lib.hid hb14; replace f14 := Lib.hid f14; replace F14 := Lib.hid F14; replace A0 := Lib.hid A0; replace C15 := Lib.hid C15; replace hwi := Lib.hid hwi; replace hwe := Lib.hid hwe; replace hshH := Lib.hid hshH; replace hhn := Lib.hid hhn
        go_wp2_with (first | (at_builtin; refine wpList_append_run _ rfl _ _ _ rfl rfl rfl happ.out ?_))
        refine C15.out.mono ?_
        rintro e w16 ⟨v16, tps, rfl, htE, htW, f16⟩
        have hTl := tellAll_len hLV.out
        obtain ⟨oT, cT, rfl, htsw⟩ := htW.srcw
        obtain ⟨tl, htl⟩ : ∃ x, tellsOf M = x := ⟨_, rfl⟩
        rw [htl] at htE hTl
        have htn : tps.length = tl.length := by rw [← htE]; unfold wds; exact (List.length_map _).symm
        obtain ⟨tn, htn2⟩ : ∃ x, tps.length = x := ⟨_, rfl⟩
        rw [htn2] at htn ⊢
        have htb : tn ≤ 900 := by omega
        have A1 := A0.out.fr f16
        have F16 := (hF.out.trans F14.out).trans f16
        have fi16 := F14.out.trans f16
        obtain ⟨hs, hhs⟩ : ∃ x, wds hps = x := ⟨_, rfl⟩
        have hsl : hs.length = hn2 := by rw [← hhs, ← hhn.out]; unfold wds; exact List.length_map _
        have B0 : PuI w16 v14 hps (hAll cs m i ++ aAll hs tl 0) := by simpa [aAll] using A1
        clear kq
        replace htE := Lib.hid htE; replace htW := Lib.hid htW; replace f16 := Lib.hid f16; replace hTl := Lib.hid hTl; replace htsw := Lib.hid htsw; replace htl := Lib.hid htl; replace htn := Lib.hid htn; replace htn2 := Lib.hid htn2; replace A1 := Lib.hid A1; replace F16 := Lib.hid F16; replace fi16 := Lib.hid fi16; replace hhs := Lib.hid hhs; replace hsl := Lib.hid hsl; replace B0 := Lib.hid B0
        go_wp2_with fail
        go_loopg [9, 11] (hn2 + 1) (fun kk v9 v11 wr => ∃ (q : Nat) (aps : List (Value × List Int)), q ≤ hn2 ∧ kk + q = hn2 + 1 ∧ v11 = .int .i64 q ∧ PuI wr v9 aps (hAll cs m i ++ aAll hs tl q) ∧ Fr [] w16 wr)
        case atStart => exact ⟨0, _, by omega, by omega, by go_num, B0.out, Fr.refl _ _⟩
        case round =>
          obtain ⟨q, aps, hq, hk3, rfl, hJ, hF3⟩ := hrel
          obtain ⟨wq, rfl⟩ : ∃ x : World, x = wr := ⟨_, rfl⟩
          obtain ⟨gq, rfl⟩ : ∃ g : Nat, g = gk := ⟨_, rfl⟩
          by_cases hlt3 : q < hn2
          · as_aux_lemma =>
            have hlt3I : (q : Int) < (hn2 : Int) := by omega
            have hqp : q < hps.length := by have := hhn.out; omega
            have hqm := List.getElem_mem hqp
            obtain ⟨bH, ofH, rfl, hbH, cH1⟩ := hsw.out q (by rw [hlm.out]; exact hqp)
            have hqs : q < hs.length := by have := hsl.out; omega
            have hwh : hs[q] = hps[q].2 := by
              have h1 : hs[q]? = (wds hps)[q]? := by rw [hhs.out]
              unfold wds at h1
              rw [List.getElem?_eq_getElem hqs, List.getElem?_map, List.getElem?_eq_getElem hqp] at h1
              simpa using h1
            have hsucc := aAll_succ hs tl q hqs
            rw [hwh] at hsucc
            rw [List.getElem_map] at cH1
            have nH := hwi.out.2 _ hqm
            have shH := hshH.out _ hqm
            have J1 : PuI wq u9 aps (hAll cs m i ++ aAll hs tl q ++ (tl.take 0).map fun w => hps[q].2 ++ w) := by simpa using hJ
            obtain ⟨⟨hv9, h⟩, hpq⟩ : ∃ x, hps[q] = x := ⟨_, rfl⟩
            rw [hpq] at hsucc cH1 nH shH J1
            dsimp only at hsucc cH1 nH shH J1
            obtain ⟨oh, ch, rfl, _⟩ := id nH
            obtain ⟨lh, hlh⟩ : ∃ x, h.length = x := ⟨_, rfl⟩
            rw [hlh] at cH1
            have hql := aAll_len hs tl q (by have := hsl.out; omega)
            replace hJ := Lib.hid hJ; replace hF3 := Lib.hid hF3; replace hqm := Lib.hid hqm; replace hbH := Lib.hid hbH; replace cH1 := Lib.hid cH1; replace hwh := Lib.hid hwh; replace hsucc := Lib.hid hsucc; replace nH := Lib.hid nH; replace shH := Lib.hid shH; replace J1 := Lib.hid J1; replace hpq := Lib.hid hpq; replace hlh := Lib.hid hlh; replace hql := Lib.hid hql
            go_wp2_with fail
            go_loopg [9, 12] (tn + 1) (fun kk v9 v12 wr => ∃ (j : Nat) (aps : List (Value × List Int)), j ≤ tn ∧ kk + j = tn + 1 ∧ v12 = .int .i64 j ∧ PuI wr v9 aps (hAll cs m i ++ aAll hs tl q ++ (tl.take j).map fun w => h ++ w) ∧ Fr [] w16 wr)
            case atStart => exact ⟨0, _, by omega, by omega, by go_num, J1.out, hF3.out⟩
            case round =>
              obtain ⟨j, aps, hj, hk4, rfl, hJ, hF4⟩ := hrel
              obtain ⟨wj, rfl⟩ : ∃ x : World, x = wr := ⟨_, rfl⟩
              by_cases hlt4 : j < tn
              · have hlt4I : (j : Int) < (tn : Int) := by omega
                have hjp : j < tps.length := by have := htn2.out; omega
                have hjm := List.getElem_mem hjp
                obtain ⟨bT, ofT, rfl, hbT, cT1⟩ := htsw.out j (by rw [List.length_map]; exact hjp)
                rw [List.getElem_map] at cT1
                have hjt : j < tl.length := by have := htn.out; omega
                have hwt : tl[j] = tps[j].2 := by
                  have h1 : tl[j]? = (wds tps)[j]? := by rw [htE.out]
                  unfold wds at h1
                  rw [List.getElem?_eq_getElem hjt, List.getElem?_map, List.getElem?_eq_getElem hjp] at h1
                  simpa using h1
                have hts := List.take_succ_eq_append_getElem hjt
                rw [hwt] at hts
                have nT := htW.out.2 _ hjm
                have shT : tps[j].2.length ≤ 60 := by rw [← hwt]; exact hTl.out.2 _ (List.getElem_mem hjt)
                obtain ⟨⟨tv, t⟩, hpt⟩ : ∃ x, tps[j] = x := ⟨_, rfl⟩
                rw [hpt] at cT1 hts nT shT
                dsimp only at cT1 hts nT shT
                obtain ⟨ot, ct, rfl, _⟩ := id nT
                obtain ⟨lt, hlt9⟩ : ∃ x, t.length = x := ⟨_, rfl⟩
                rw [hlt9] at cT1
                have KW : ∀ W, Fr [] wj W → (W.cell? ⟨bH, ofH + q, none⟩ = some (.slice oh lh ch) ∧ W.cell? ⟨bT, ofT + j, none⟩ = some (.slice ot lt ct)) := fun W f =>
                  ⟨(((fi16.out.trans hF4).trans f).cell (p := ⟨bH, ofH + q, none⟩) hbH.out (by simp)).trans cH1.out, ((hF4.trans f).cell (p := ⟨bT, ofT + j, none⟩) hbT (by simp)).trans cT1⟩
                have CC : ∀ W, Fr [] wj W → Calls Try.prog 84 #[.slice oh lh ch] W fun e w' => (∃ v' bo, e = .returned v' ∧ Row 1 w' v' h.length (ints h) bo ∧ (∀ z, bo = some z → W.heap.size ≤ z)) ∧ Fr [] W w' := fun W f => by
                  have h1 := rcopy_any _ h W (nH.out.fr ((fi16.out.trans hF4).trans f)) (by have := shH.out; omega)
                  rw [hlh.out] at h1
                  rw [hlh.out]
                  exact h1.mono fun e w' ⟨v', bo, g1, g2, g3, g4⟩ => ⟨⟨v', bo, g1, g2, g3⟩, g4⟩
                have nTf : ∀ W, Fr [] wj W → NIn W (.slice ot lt ct) t := fun W f => by
                  have h1 := nT.fr (hF4.trans f)
                  rw [hlt9] at h1
                  exact h1
                have hlj : aps.length ≤ 1000000 := by
                  have h1 := hJ.len
                  rw [List.length_append, List.length_append, hHl.out, hql.out, List.length_map, List.length_take] at h1
                  have h2 := hHb.out
                  have h3 : q * tl.length ≤ 390 * 900 := Nat.mul_le_mul (by omega) (by have := htn.out; omega)
                  omega
                have hht : (h ++ t).length = lh + lt := by rw [List.length_append, hlh.out, hlt9]
                have hht2 : (h ++ t).length ≤ 91 := by have := shH.out; have := hlh.out; omega
                have PC : ∀ W v, Fr [] wj W → NIn W v (h ++ t) → Calls Try.prog 83 #[u9, v] W fun e w' => (∃ v' ps', e = .returned v' ∧ wds ps' = insW (h ++ t) (wds aps) ∧ WSl w' v' ps' ∧ (∀ p ∈ ps', p ∈ aps ∨ CapV p)) ∧ Fr [] W w' := fun W v f hn9 =>
                  (rputc_any u9 v aps (h ++ t) W (hJ.ws.fr f) hn9 hJ.asc hlj (by omega) (fun p hp => by have := hJ.short p hp; omega)).mono fun e w' ⟨v', ps', g1, g2, g3, g4, g5⟩ => ⟨⟨v', ps', g1, g2, g3, g4⟩, g5⟩
                obtain ⟨ka, kb⟩ := KW wj (Fr.refl _ _)
                have shH2 := shH.out
                replace hJ := Lib.hid hJ; replace hF4 := Lib.hid hF4; replace hjm := Lib.hid hjm; replace hbT := Lib.hid hbT; replace cT1 := Lib.hid cT1; replace hwt := Lib.hid hwt; replace hts := Lib.hid hts; replace nT := Lib.hid nT; replace shT := Lib.hid shT; replace hpt := Lib.hid hpt; replace hlt9 := Lib.hid hlt9; replace KW := Lib.hid KW; replace CC := Lib.hid CC; replace nTf := Lib.hid nTf; replace hlj := Lib.hid hlj; replace hht := Lib.hid hht; replace hht2 := Lib.hid hht2; replace PC := Lib.hid PC
                go_upto_region 22 with fail
                go_region_held3 (fun W => W.cell? ⟨bH, ofH + q, none⟩ = some (.slice oh lh ch) ∧ W.cell? ⟨bT, ofT + j, none⟩ = some (.slice ot lt ct))
                  (first | exact KW.out _ (Fr.refl _ _).drew | exact KW.out _ G22.out | exact KW.out _ G21.out | exact KW.out _ G20.out)
                  ((first
                    | (obtain ⟨v21, w21, b21, happ21, hr21, hb21, f21⟩ := hr20.out.appN (by omega) (nTf.out w20 G20.out) (by have := shT.out; omega)
                       have G21 := Lib.hid (G20.out.step f21 (fun z hz => .inr (by have := hb20.out z (by simpa using hz); have := f20s.out; omega)))
                       replace hr21 := Lib.hid hr21; replace hb21 := Lib.hid hb21; replace f21 := Lib.hid f21
                       obtain ⟨o21, c21, hv21⟩ := hr21.out.len
                       rw [hht.out] at hv21
                       subst hv21
                       refine step_append_run rfl _ _ _ rfl (v := .slice o20 lh c20) rfl (xv := .slice ot lt ct) rfl happ21 ?_
                       clear happ21)
                    | (go_at_call 84; with_reducible refine Calls.mono (CC.out _ ?hfr) ?_; (case hfr => exact (Fr.refl _ _).drew); rintro e w20 ⟨⟨v20, b20, rfl, hr20, hb20⟩, f20⟩; have G20 := Lib.hid (((Fr.refl [] wj).drew).trans f20); have f20s := Lib.hid (show wj.heap.size ≤ wj.drew.heap.size from Nat.le_refl _); replace hr20 := Lib.hid hr20; replace hb20 := Lib.hid hb20; replace f20 := Lib.hid f20; obtain ⟨o20, c20, hv20⟩ := hr20.out.len; rw [hlh.out] at hv20; subst hv20)
                    | (go_at_call 83; with_reducible refine Calls.mono (PC.out w21 _ G21.out hr21.out.nin) ?_; rintro e w22 ⟨⟨v22, ps22, rfl, he22, hW22, hc22⟩, f22⟩; have G22 := Lib.hid (G21.out.trans f22); replace f22 := Lib.hid f22; replace he22 := Lib.hid he22; replace hW22 := Lib.hid hW22; replace hc22 := Lib.hid hc22)))
                all_goals
                  have NE : PuI w22 v22 ps22 (hAll cs m i ++ aAll hs tl q ++ (tl.take (j + 1)).map fun w => h ++ w) := by
                    rw [hts.out, List.map_append, ← List.append_assoc]
                    exact hJ.out.put (word := h ++ t) (Nat.le_trans hht2.out (by omega)) he22.out hW22.out hc22.out
                  have NF := hF4.out.trans G22.out
                  clear ka kb KW CC nTf PC
                  replace NE := Lib.hid NE; replace NF := Lib.hid NF
                  go_wp2_with fail
                  go_roundg (gk - 1)
                  case measure => omega
                  case rel => exact ⟨j + 1, _, by omega, by omega, by go_num, NE.out, NF.out⟩
              · obtain rfl : j = tn := by omega
                have hlt4I : ¬ (j : Int) < (j : Int) := by omega
                have NE : PuI wj u9 aps (hAll cs m i ++ aAll hs tl (q + 1)) := by
                  rw [hsucc.out, ← List.append_assoc]
                  have h1 := hJ
                  rw [List.take_of_length_le (l := tl) (by have := htn.out; omega)] at h1
                  exact h1
                replace hJ := Lib.hid hJ; replace hF4 := Lib.hid hF4; replace NE := Lib.hid NE
                go_wp2_with fail
                go_roundg (gq - 1)
                case measure => omega
                case rel => exact ⟨q + 1, _, by omega, by omega, by go_num, NE.out, hF4.out⟩
          · obtain rfl : q = hn2 := by omega
            have hlt3I : ¬ (q : Int) < (q : Int) := by omega
            have hql := aAll_len hs tl q (by have := hsl.out; omega)
            have hlj : aps.length ≤ 1000000 := by
              have h1 := hJ.len
              rw [List.length_append, hHl.out, hql] at h1
              have h2 := hHb.out
              have h3 : q * tl.length ≤ 390 * 900 := Nat.mul_le_mul (by omega) (by have := htn.out; omega)
              omega
            obtain ⟨AN, hAN⟩ : ∃ x, aps.length = x := ⟨_, rfl⟩
            have hANb : AN ≤ 1000000 := by omega
            obtain ⟨oA, cA, rfl, hasw⟩ := hJ.ws.srcw
            rw [hAN]
            have hsame := suite_same M tl m hm.out hs (by
              have h1 := hwe.out
              rw [hhs.out] at h1
              rw [hcsE.out, hcs.out]
              exact h1)
            rw [hcsE.out, hcs.out, show hs.length = q from hsl.out] at hsame
            have hfin : wholeL (wds aps) = suiteL M tl := by
              unfold suiteL
              rw [hJ.eq, hsame, hcsE.out]
            have hAsc := hJ.asc
            have hacap := hJ.cap
            have hash := hJ.short
            have haW := hJ.ws.2
            have hal : (wds aps).length = AN := by unfold wds; rw [List.length_map]; exact hAN
            have Z0 : OuI wq aps wq (.slice none 0 0) [] none 0 := ⟨Row.nil 1 _ none, by simp, by simp [wds], by simp, by simp, Fr.refl _ _⟩
            obtain ⟨wA, rfl⟩ : ∃ x : World, x = wq := ⟨_, rfl⟩
            replace hJ := Lib.hid hJ; replace hF3 := Lib.hid hF3; replace hql := Lib.hid hql; replace hlj := Lib.hid hlj; replace hAN := Lib.hid hAN; replace hasw := Lib.hid hasw; replace hsame := Lib.hid hsame; replace hfin := Lib.hid hfin; replace hAsc := Lib.hid hAsc; replace hacap := Lib.hid hacap; replace hash := Lib.hid hash; replace haW := Lib.hid haW; replace hal := Lib.hid hal; replace Z0 := Lib.hid Z0
            go_wp2_with fail
            go_loopg [13, 14] (AN + 1) (fun kk v13 v14 wr => ∃ (p : Nat) (ks : List (Value × List Int)) (b13 : Option Nat), p ≤ AN ∧ kk + p = AN + 1 ∧ v14 = .int .i64 p ∧ OuI wA aps wr v13 ks b13 p)
            case atStart => exact ⟨0, [], none, by omega, by omega, by go_num, Z0.out⟩
            case round =>
              obtain ⟨p, ks, b13, hp, hk5, rfl, hO⟩ := hrel
              obtain ⟨wp, rfl⟩ : ∃ x : World, x = wr := ⟨_, rfl⟩
              obtain ⟨gp, rfl⟩ : ∃ g : Nat, g = gk := ⟨_, rfl⟩
              by_cases hlt5 : p < AN
              · have hlt5I : (p : Int) < (AN : Int) := by omega
                have hpp : p < aps.length := by have := hAN.out; omega
                have hpm := List.getElem_mem hpp
                obtain ⟨bA, ofA, rfl, hbA, cA1⟩ := hasw.out p (by rw [List.length_map]; exact hpp)
                rw [List.getElem_map] at cA1
                have hpl : p < (wds aps).length := by have := hal.out; omega
                have hpw : (wds aps)[p] = aps[p].2 := by unfold wds; rw [List.getElem_map]
                have hlater := pre_later hAsc.out p hpl
                rw [hpw] at hlater
                have nP := haW.out _ hpm
                have shP := hash.out _ hpm
                have h1c : aps[p].1.oneCell' = true := nP.one1
                have SKIP := fun (W : World) (f : Fr [] wp W) (hn : ((wds aps).any fun x => isPre aps[p].2 x) = true) => hO.skip f hpp hn
                have ADD := fun (W : World) (f : Fr [] wp W) (hn : ((wds aps).any fun x => isPre aps[p].2 x) = false) => hO.add f hpp hn (by omega) h1c
                obtain ⟨⟨pv, pw⟩, hpq⟩ : ∃ x, aps[p] = x := ⟨_, rfl⟩
                rw [hpq] at cA1 hpw hlater nP shP SKIP ADD h1c
                dsimp only at cA1 hpw hlater nP shP SKIP ADD h1c
                obtain ⟨op, cp, rfl, _⟩ := id nP
                have hwr : IntKind.i64.wrap ((p : Int) + 1) = (p : Int) + 1 := by rw [IntKind.wrap_i64]; omega
                replace hO := Lib.hid hO; replace hpm := Lib.hid hpm; replace hbA := Lib.hid hbA; replace cA1 := Lib.hid cA1; replace hpw := Lib.hid hpw; replace hlater := Lib.hid hlater; replace nP := Lib.hid nP; replace shP := Lib.hid shP; replace SKIP := Lib.hid SKIP; replace ADD := Lib.hid ADD; replace hpq := Lib.hid hpq; replace h1c := Lib.hid h1c
                go_wp2_with fail
                go_loopg [15, 16] (2 * AN + 2) (fun kk v15 v16 wr => ∃ (j : Nat) (b : Bool), p + 1 ≤ j ∧ j ≤ AN ∧ kk + 2 * j + b.toNat = 2 * AN + 2 + 2 * (p + 1) ∧ v16 = .int .i64 j ∧ v15 = .bool b ∧ (b = false → ∀ k (h : k < aps.length), p < k → k < j → isPre pw aps[k].2 = false) ∧ (b = true → ((wds aps).any fun x => isPre pw x) = true) ∧ Fr [] wp wr)
                case atStart => exact ⟨p + 1, false, by omega, by omega, by simp, by go_num, rfl, fun _ k _ h1 h2 => by omega, (fun h => by cases h), Fr.refl _ _⟩
                case round =>
                  obtain ⟨j, b, hj1, hj2, hkk, rfl, rfl, hb0, hb1, hF6⟩ := hrel
                  obtain ⟨wj, rfl⟩ : ∃ x : World, x = wr := ⟨_, rfl⟩
                  cases b
                  · by_cases hlt6 : j < AN
                    · as_aux_lemma =>
                      have hlt6I : (j : Int) < (AN : Int) := by omega
                      have hjp : j < aps.length := by have := hAN.out; omega
                      have hjm := List.getElem_mem hjp
                      obtain ⟨bA', ofA', e9, hbA', cA2⟩ := hasw.out j (by rw [List.length_map]; exact hjp)
                      simp only [Option.some.injEq, Addr.mk.injEq, and_true] at e9
                      obtain ⟨rfl, rfl⟩ := e9
                      rw [List.getElem_map] at cA2
                      have nJ := haW.out _ hjm
                      have capJ := hacap.out _ hjm
                      have shJ := hash.out _ hjm
                      have hb0j := hb0 rfl
                      have hjw : aps[j].2 ∈ wds aps := by unfold wds; exact List.mem_map.mpr ⟨aps[j], hjm, rfl⟩
                      have hnew : ∀ k (h : k < aps.length), p < k → k < j + 1 → isPre pw aps[j].2 = false → isPre pw aps[k].2 = false := fun k h h1 h2 h3 => by
                        by_cases hk : k = j
                        · subst hk; exact h3
                        · exact hb0j k h h1 (by omega)
                      have hyes : isPre pw aps[j].2 = true → ((wds aps).any fun x => isPre pw x) = true := fun h => List.any_eq_true.mpr ⟨_, hjw, h⟩
                      obtain ⟨⟨jv, jw⟩, hpj⟩ : ∃ x, aps[j] = x := ⟨_, rfl⟩
                      rw [hpj] at cA2 nJ capJ shJ hnew hyes
                      dsimp only at cA2 nJ capJ shJ hnew hyes
                      have GP := hO.out.fr.trans hF6
                      have KW : ∀ W, Fr [] wj W → (W.cell? ⟨bA, ofA + p, none⟩ = some (.slice op pw.length cp) ∧ W.cell? ⟨bA, ofA + j, none⟩ = some jv) := fun W f =>
                        ⟨((GP.trans f).cell (p := ⟨bA, ofA + p, none⟩) hbA.out (by simp)).trans cA1.out, ((GP.trans f).cell (p := ⟨bA, ofA + j, none⟩) hbA' (by simp)).trans cA2⟩
                      obtain ⟨B, hB⟩ : ∃ x, isPre pw jw = x := ⟨_, rfl⟩
                      have BC : ∀ W, Fr [] wj W → Calls Try.prog 85 #[.slice op pw.length cp, jv] W fun e w' => e = .returned (.bool B) ∧ Fr [] W w' := fun W f => by
                        have h1 := rbegins_any _ jv pw jw W (nP.out.fr (GP.trans f)) (nJ.fr (GP.trans f)) capJ (by have := shP.out; omega) (by omega)
                        rw [hB] at h1
                        exact h1
                      rw [hB] at hnew hyes
                      obtain ⟨ka, kb⟩ := KW wj (Fr.refl _ _)
                      clear hb0 hb1 hb0j
                      replace hF6 := Lib.hid hF6; replace hjm := Lib.hid hjm; replace hbA' := Lib.hid hbA'; replace cA2 := Lib.hid cA2; replace nJ := Lib.hid nJ; replace capJ := Lib.hid capJ; replace shJ := Lib.hid shJ; replace hjw := Lib.hid hjw; replace hnew := Lib.hid hnew; replace hyes := Lib.hid hyes; replace hpj := Lib.hid hpj; replace GP := Lib.hid GP; replace KW := Lib.hid KW; replace hB := Lib.hid hB; replace BC := Lib.hid BC
                      go_upto_region 31 with fail
                      go_region_held3 (fun W => W.cell? ⟨bA, ofA + p, none⟩ = some (.slice op pw.length cp) ∧ W.cell? ⟨bA, ofA + j, none⟩ = some jv)
                        (first | exact KW.out _ (Fr.refl _ _).drew | exact KW.out _ G31.out)
                        ((first
                          | (go_at_call 85; with_reducible refine Calls.mono (BC.out _ ?hfr) ?_; (case hfr => exact (Fr.refl _ _).drew); rintro e w31 ⟨rfl, f31⟩; have G31 := Lib.hid (((Fr.refl [] wj).drew).trans f31); replace f31 := Lib.hid f31)))
                      all_goals
                        have NF := hF6.out.trans G31.out
                        clear ka kb KW BC
                        replace NF := Lib.hid NF
                        cases B
                        · go_wp2_with fail
                          go_roundg (gk - 2)
                          case measure => simp at hkk; omega
                          case rel => exact ⟨j + 1, false, by omega, by omega, by simp at hkk ⊢; omega, by go_num, rfl, fun _ k h h1 h2 => hnew.out k h h1 h2 (by first | rfl | trivial), (fun h => by cases h), NF.out⟩
                        · go_wp2_with fail
                          go_roundg (gk - 3)
                          case measure => simp at hkk; omega
                          case rel => exact ⟨j + 1, true, by omega, by omega, by simp at hkk ⊢; omega, by go_num, rfl, (fun h => by cases h), fun _ => hyes.out (by first | rfl | trivial), NF.out⟩
                    · as_aux_lemma =>
                      have hlt6I : ¬ (j : Int) < (AN : Int) := by omega
                      have hno : ((wds aps).any fun x => isPre pw x) = false := by
                        rw [hlater.out, List.any_eq_false]
                        intro x hx
                        rw [List.mem_drop_iff_getElem] at hx
                        obtain ⟨k, hk9, rfl⟩ := hx
                        have hk8 : p + 1 + k < aps.length := by have := hal.out; have := hAN.out; omega
                        have h1 := hb0 rfl (p + 1 + k) hk8 (by omega) (by have := hAN.out; omega)
                        have h2 : (wds aps)[p + 1 + k] = aps[p + 1 + k].2 := by unfold wds; rw [List.getElem_map]
                        rw [h2, h1]; simp
                      obtain ⟨v9, w9', b9, happ, NO⟩ := ADD.out wj hF6 hno
                      have ka := ((hO.out.fr.trans hF6).cell (p := ⟨bA, ofA + p, none⟩) hbA.out (by simp)).trans cA1.out
                      clear hb0 hb1
                      replace hF6 := Lib.hid hF6; replace hno := Lib.hid hno; replace happ := Lib.hid happ; replace NO := Lib.hid NO
                      go_wp2_with (first | (at_builtin; refine wpList_append_run _ rfl _ _ _ rfl rfl rfl happ.out ?_))
                      go_roundg (gp - 1)
                      case measure => omega
                      case rel => exact ⟨p + 1, _, _, by omega, by omega, by go_num, NO.out⟩
                  · as_aux_lemma =>
                    have NO := SKIP.out wj hF6 (hb1 rfl)
                    clear hb0 hb1
                    replace hF6 := Lib.hid hF6; replace NO := Lib.hid NO
                    by_cases hlt6 : j < AN
                    · have hlt6I : (j : Int) < (AN : Int) := by omega
                      go_wp2_with fail
                      go_roundg (gp - 1)
                      case measure => omega
                      case rel => exact ⟨p + 1, _, _, by omega, by omega, by go_num, NO.out⟩
                    · have hlt6I : ¬ (j : Int) < (AN : Int) := by omega
                      go_wp2_with fail
                      go_roundg (gp - 1)
                      case measure => omega
                      case rel => exact ⟨p + 1, _, _, by omega, by omega, by go_num, NO.out⟩
              · obtain rfl : p = AN := by omega
                have hlt5I : ¬ (p : Int) < (p : Int) := by omega
                have heq : wds ks = suiteL M tl := by
                  rw [hO.eq, List.take_of_length_le (by have := hal.out; omega)]
                  exact hfin.out
                have hS := row_sin hO.row (fun p hp => (haW.out p (hO.sub p hp)).fr hO.fr)
                rw [heq] at hS
                have hlk : ks.length = (suiteL M tl).length := by rw [← heq]; unfold wds; exact (List.length_map _).symm
                have hx9 := hx.out
                rw [htl.out] at hx9
                have FF : Fr [] w wp := ((F9.out.trans F16.out).trans hF3.out).trans hO.fr
                obtain ⟨o13, c13, rfl⟩ := hO.row.len
                obtain ⟨n13, hn13⟩ : ∃ x, ks.length = x := ⟨_, rfl⟩
                rw [hn13] at hlk hS ⊢
                by_cases hbig : 3000 < n13
                · rw [if_pos (by rw [← hlk]; exact hbig)] at hx9
                  obtain ⟨rfl, rfl⟩ : [] = X ∧ 2 = z := by simpa using hx9
                  have hbigI : (3000 : Int) < (n13 : Int) := by omega
                  have GO : CvR [] 2 w (.returned (.tuple #[.slice none 0 0, .int .i64 2])) wp := ⟨_, rfl, ⟨none, 0, rfl, fun i hi => by simp at hi⟩, FF⟩
                  clear hx9
                  replace hO := Lib.hid hO; replace heq := Lib.hid heq; replace hS := Lib.hid hS; replace hlk := Lib.hid hlk; replace FF := Lib.hid FF; replace GO := Lib.hid GO; replace hn13 := Lib.hid hn13
                  go_wp2_with fail
                  refine bodyPost_ret (v := .tuple #[.slice none 0 0, .int .i64 2]) (by simp [results, Try.results47, go_sem]) rfl GO.out
                · rw [if_neg (by rw [← hlk]; exact hbig)] at hx9
                  obtain ⟨hx1, rfl⟩ : suiteL M tl = X ∧ 0 = z := by simpa using hx9
                  have hbigI : ¬ (3000 : Int) < (n13 : Int) := by omega
                  have GO : CvR X 0 w (.returned (.tuple #[.slice o13 n13 c13, .int .i64 0])) wp := ⟨_, rfl, by rw [← hx1]; exact hS, FF⟩
                  clear hx9
                  replace hO := Lib.hid hO; replace heq := Lib.hid heq; replace hS := Lib.hid hS; replace hlk := Lib.hid hlk; replace FF := Lib.hid FF; replace GO := Lib.hid GO; replace hn13 := Lib.hid hn13; replace hx1 := Lib.hid hx1
                  go_wp2_with fail
                  refine bodyPost_ret (v := .tuple #[.slice o13 n13 c13, .int .i64 0]) (by simp [results, Try.results47, go_sem]) rfl GO.out
end Go.Proofs.Ytnggimkkjdipmaa
namespace Go.Proofs.Ytnggimkkjdipmaa
open Go.RowKit
set_option linter.unusedVariables false
set_option linter.unusedSimpArgs false
set_option maxHeartbeats 16000000
set_option maxRecDepth 100000
/-! ### The reference's Mutants; the law TableSuites -/
theorem rMutants_any (T : Tb) (v : Value) (w : World) (hT : TIn w v T) :
    Calls Try.prog 49 #[v] w fun e w' => e = .returned (.tuple #[.int .i64 (mutsF T).1, .int .i64 (mutsF T).2]) ∧ Fr [] w w' := by
  obtain ⟨r, rfl, hR⟩ := hT
  rw [show T.val r = .agg #[.int .i64 T.st, .int .i64 T.ev, .int .i64 T.sr, r] from rfl]
  have VA : ∀ W, Fr [] w W → Calls Try.prog 20 #[.agg #[.int .i64 T.st, .int .i64 T.ev, .int .i64 T.sr, r]] W fun e w' => e = .returned (.bool (validT T)) ∧ Fr [] W w' := fun W f => rvalid_any T _ W ⟨r, rfl, hR.fr f⟩
  obtain ⟨⟨X, z⟩, hX⟩ : ∃ x, mutsF T = x := ⟨_, rfl⟩
  rw [hX]
  dsimp only
  obtain ⟨w1, hw1⟩ : ∃ x, w.alloc (.cells #[.int .i64 T.st, .int .i64 T.ev, .int .i64 T.sr, r] RTab) = x := ⟨_, rfl⟩
  have P1 := Pt.newA w RTab #[.int .i64 T.st, .int .i64 T.ev, .int .i64 T.sr, r]
  rw [hw1] at P1
  have F1 : Fr [] w w1 := by rw [← hw1]; exact (Fr.refl [] w).alloc _
  obtain ⟨b1, hb1⟩ : ∃ x, w.heap.size = x := ⟨_, rfl⟩
  rw [hb1] at P1
  have k1 := P1.cell
  replace hR := Lib.hid hR; replace VA := Lib.hid VA; replace hX := Lib.hid hX; replace P1 := Lib.hid P1; replace F1 := Lib.hid F1
  go_enter Try.func49, Try.ntmps49
  go_wp2_with fail
  refine (VA.out _ F1.out).mono ?_
  rintro e w4 ⟨rfl, f4⟩
  have F4 := F1.out.trans f4
  have p1 := f4.pt P1.out (by simp)
  clear k1 hb1 hw1
  cases hv : validT T
  · have hx := hX.out
    unfold mutsF at hx
    rw [hv] at hx
    obtain ⟨rfl, rfl⟩ : 0 = X ∧ 1 = z := by simpa using hx
    clear hx
    replace hv := Lib.hid hv; replace F4 := Lib.hid F4; replace f4 := Lib.hid f4; replace p1 := Lib.hid p1
    go_wp2_with fail
    refine bodyPost_ret (v := .tuple #[.int .i64 0, .int .i64 1]) (by simp [results, Try.results49, go_sem]) rfl ⟨rfl, F4.out⟩
  · have hV := (validT_iff T).mp hv
    have hx := hX.out
    unfold mutsF at hx
    rw [hv, if_pos rfl] at hx
    obtain ⟨hx1, rfl⟩ : ((mutL T).length : Int) = X ∧ 0 = z := by simpa using hx
    have RM := rmutants_any T _ w4 ⟨r, rfl, hR.out.fr F4⟩ hV
    rw [show T.val r = .agg #[.int .i64 T.st, .int .i64 T.ev, .int .i64 T.sr, r] from rfl] at RM
    have c1 := p1.cell
    clear hx
    replace hv := Lib.hid hv; replace hV := Lib.hid hV; replace hx1 := Lib.hid hx1; replace F4 := Lib.hid F4; replace f4 := Lib.hid f4; replace p1 := Lib.hid p1; replace RM := Lib.hid RM
    go_wp2_with fail
    refine RM.out.mono ?_
    rintro e w7 ⟨lv, L, bo, rfl, hL, hTs, f7⟩
    have hN : L.length = (mutL T).length := by have := congrArg List.length hL; simpa using this
    have F7 := F4.out.trans f7
    obtain ⟨ol, cl, rfl⟩ := hTs.row.len
    have hXL : (L.length : Int) = X := by rw [hN]; exact hx1.out
    clear c1
    replace hL := Lib.hid hL; replace hTs := Lib.hid hTs; replace f7 := Lib.hid f7; replace F7 := Lib.hid F7; replace hN := Lib.hid hN
    go_wp2_with fail
    refine bodyPost_ret (v := .tuple #[.int .i64 X, .int .i64 0]) (by simp [results, Try.results49, go_sem]) rfl ⟨rfl, F7.out⟩
theorem suiteF_len (T : Tb) : (suiteF T).1.length ≤ 1000000000 ∧ ∀ x ∈ (suiteF T).1, x.length ≤ 1000000000 := by
  unfold suiteF
  cases h : validT T
  · exact ⟨by simp, by simp⟩
  · have hL := least_valid ((validT_iff T).mp h)
    simp only [if_true]
    by_cases hb : 3000 < (suiteL (leastT T) (tellsOf (leastT T))).length
    · rw [if_pos hb]; exact ⟨by simp, by simp⟩
    · rw [if_neg hb]
      exact ⟨by dsimp only; omega, fun x hx => by have := (suite_words hL hx).2; omega⟩
theorem tsuites_any (T : Tb) (v : Value) (w : World) (hT : TIn w v T) (hz : Fits T) :
    Calls Try.prog 13 #[v] w fun e w' => e = .returned (.bool true) ∧ Fr [] w w' := by
  obtain ⟨r, rfl, hR⟩ := hT
  rw [show T.val r = .agg #[.int .i64 T.st, .int .i64 T.ev, .int .i64 T.sr, r] from rfl]
  have ls := suiteF_len T
  obtain ⟨⟨S, s⟩, hS⟩ : ∃ y, suiteF T = y := ⟨_, rfl⟩
  obtain ⟨⟨C, c⟩, hC⟩ : ∃ y, mutsF T = y := ⟨_, rfl⟩
  rw [hS] at ls
  dsimp only at ls
  have SA : ∀ W, Fr [] w W → Calls Try.prog 46 #[.agg #[.int .i64 T.st, .int .i64 T.ev, .int .i64 T.sr, r]] W (CvR S s W) := fun W f => by
    have := Suite_any T _ W ⟨r, rfl, hR.fr f⟩; rw [hS] at this; exact this
  have SB : ∀ W v, TIn W v T → Calls Try.prog 47 #[v] W (CvR S s W) := fun W v f => by
    have := rSuite_any T _ W f; rw [hS] at this; exact this
  have MA : ∀ W, Fr [] w W → Calls Try.prog 48 #[.agg #[.int .i64 T.st, .int .i64 T.ev, .int .i64 T.sr, r]] W fun e w' => e = .returned (.tuple #[.int .i64 C, .int .i64 c]) ∧ Fr [] W w' := fun W f => by
    have := Mutants_any T _ W ⟨r, rfl, hR.fr f⟩; rw [hC] at this; exact this
  have MB : ∀ W v, TIn W v T → Calls Try.prog 49 #[v] W fun e w' => e = .returned (.tuple #[.int .i64 C, .int .i64 c]) ∧ Fr [] W w' := fun W v f => by
    have := rMutants_any T _ W f; rw [hC] at this; exact this
  have TO : ∀ W, Fr [] w W → Calls Try.prog 18 #[.agg #[.int .i64 T.st, .int .i64 T.ev, .int .i64 T.sr, r]] W fun e w' => ∃ rv, e = .returned rv ∧ TIn w' rv T ∧ Fr [] W w' := fun W f => to_any T _ W ⟨r, rfl, hR.fr f⟩ hz
  have RS : ∀ W va vb, SIn W va S → SIn W vb S → Calls Try.prog 43 #[va, vb] W fun e w' => e = .returned (.bool true) ∧ Fr [] W w' := fun W va vb h1 h2 => by
    have := rows_any va vb S S W h1 h2 ls.1 ls.2; rw [decide_eq_true rfl] at this; exact this
  obtain ⟨w1, hw1⟩ : ∃ x, w.alloc (.cells #[.int .i64 T.st, .int .i64 T.ev, .int .i64 T.sr, r] TTab) = x := ⟨_, rfl⟩
  have P1 := Pt.newA w TTab #[.int .i64 T.st, .int .i64 T.ev, .int .i64 T.sr, r]
  rw [hw1] at P1
  have F1 : Fr [] w w1 := by rw [← hw1]; exact (Fr.refl [] w).alloc _
  obtain ⟨b1, hb1⟩ : ∃ x, w.heap.size = x := ⟨_, rfl⟩
  rw [hb1] at P1
  have k1 := P1.cell
  clear ls
  replace P1 := Lib.hid P1; replace F1 := Lib.hid F1; replace SA := Lib.hid SA; replace SB := Lib.hid SB; replace MA := Lib.hid MA; replace MB := Lib.hid MB; replace TO := Lib.hid TO; replace RS := Lib.hid RS; replace hS := Lib.hid hS; replace hC := Lib.hid hC; replace hz := Lib.hid hz
  go_enter Try.func13, Try.ntmps13
  go_wp2_with fail
  refine (SA.out _ F1.out).mono ?_
  rintro e w2 ⟨v2, rfl, n2, f2⟩
  have F2 := F1.out.trans f2
  have P2 := f2.pt P1.out (by simp)
  have k2 := P2.cell
  clear k1 hw1 hb1
  replace n2 := Lib.hid n2; replace f2 := Lib.hid f2; replace F2 := Lib.hid F2; replace P2 := Lib.hid P2
  go_wp2_with fail
  refine (TO.out _ F2.out).mono ?_
  rintro e w3 ⟨v3, rfl, t3, f3⟩
  have F3 := F2.out.trans f3
  have P3 := f3.pt P2.out (by simp)
  have C3 := SB.out _ _ t3
  clear k2
  replace t3 := Lib.hid t3; replace f3 := Lib.hid f3; replace F3 := Lib.hid F3; replace P3 := Lib.hid P3; replace C3 := Lib.hid C3
  go_wp2_with fail
  refine C3.out.mono ?_
  rintro e w4 ⟨v4, rfl, n4, f4⟩
  have F4 := F3.out.trans f4
  have P4 := f4.pt P3.out (by simp)
  have k4 := P4.cell
  have n24 := n2.out.fr (f3.out.trans f4)
  replace n4 := Lib.hid n4; replace f4 := Lib.hid f4; replace F4 := Lib.hid F4; replace P4 := Lib.hid P4; replace n24 := Lib.hid n24
  go_wp2_with fail
  refine (MA.out _ F4.out).mono ?_
  rintro e w5 ⟨rfl, f5⟩
  have F5 := F4.out.trans f5
  have P5 := f5.pt P4.out (by simp)
  have k5 := P5.cell
  clear k4
  replace f5 := Lib.hid f5; replace F5 := Lib.hid F5; replace P5 := Lib.hid P5
  go_wp2_with fail
  refine (TO.out _ F5.out).mono ?_
  rintro e w6 ⟨v6, rfl, t6, f6⟩
  have F6 := F5.out.trans f6
  have C6 := MB.out _ _ t6
  clear k5
  replace t6 := Lib.hid t6; replace f6 := Lib.hid f6; replace F6 := Lib.hid F6; replace C6 := Lib.hid C6
  go_wp2_with fail
  refine C6.out.mono ?_
  rintro e w7 ⟨rfl, f7⟩
  have F7 := F6.out.trans f7
  have f47 := (f5.out.trans f6.out).trans f7
  have R7 := RS.out w7 v2 v4 (n24.out.fr f47) (n4.out.fr f47)
  replace f7 := Lib.hid f7; replace F7 := Lib.hid F7; replace f47 := Lib.hid f47; replace R7 := Lib.hid R7
  go_wp2_with fail
  refine R7.out.mono ?_
  rintro e w8 ⟨rfl, f8⟩
  have F8 := F7.out.trans f8
  have SN := sane_any w8
  replace f8 := Lib.hid f8; replace F8 := Lib.hid F8; replace SN := Lib.hid SN
  go_wp2_with fail
  refine (SN.out).mono ?_
  rintro e w9 ⟨rfl, f9⟩
  have F9 := F8.out.trans f9
  replace f9 := Lib.hid f9; replace F9 := Lib.hid F9
  go_wp2_with fail
  go_ret
  exact ⟨rfl, F9.out⟩
end Go.Proofs.Ytnggimkkjdipmaa
