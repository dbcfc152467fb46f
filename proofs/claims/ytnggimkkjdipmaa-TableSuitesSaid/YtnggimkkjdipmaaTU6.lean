import Derived.Test.YtnggimkkjdipmaaTU5
namespace Go.Proofs.Ytnggimkkjdipmaa
open Go.RowKit
set_option linter.unusedVariables false
set_option linter.unusedSimpArgs false
set_option maxHeartbeats 16000000
set_option maxRecDepth 100000
def WholeR (q : Nat → Prop) (w : World) (L : List (List Int)) (e : Ending) (w' : World) : Prop := ∃ v' ps' bo, e = .returned v' ∧ wds ps' = wholeL L ∧ Wds q w' v' ps' bo ∧ Fr [] w w'
theorem whole_any (q : Nat → Prop) (w : World) (v : Value) (ps : List (Value × List Int)) (bo : Option Nat) (h : Wds q w v ps bo) (hq : ∀ z, w.heap.size ≤ z → q z) (hA : Asc (wds ps)) (hp0 : 0 < ps.length) (hn : ps.length ≤ 1000000) (hl : ∀ p ∈ ps, p.2.length ≤ 1000) (hc : ∀ p ∈ ps, CapV p) :
    Calls Try.prog 81 #[v] w (WholeR q w (wds ps)) := by
  obtain ⟨b, off, cap, rfl, rfl⟩ : ∃ b off cap, bo = some b ∧ v = .slice (some ⟨b, off, none⟩) ps.length cap := by
    rcases h.row with ⟨_, h2, _⟩ | ⟨b, off, cap, hb, e, _⟩
    · omega
    · exact ⟨b, off, cap, hb, e⟩
  have hln : (ps.map (·.1)).length = ps.length := List.length_map _
  have hone : ∀ p ∈ ps, p.1.oneCell' = true := fun p hp => (h.each p hp).nin.one1
  have CC := cloneS_any b off cap (ps.map (·.1)) w (by rw [hln]; exact h.row) (by rw [hln]; omega) (fun u hu => by
    obtain ⟨p, hp, rfl⟩ := List.mem_map.mp hu
    exact hone p hp)
  rw [hln] at CC
  have hWc : ∀ w2 v2 b2, Row 1 w2 v2 ps.length (ps.map (·.1)) b2 → (∀ z, b2 = some z → w.heap.size ≤ z) → Fr [] w w2 → Wds q w2 v2 ps b2 := fun w2 v2 b2 hr hb f => by
    refine ⟨hr, fun p hp => (h.each p hp).frq f (fun x hx hqx => ⟨by simp, hqx.1, fun hm => by have := hb x (by simpa using hm); omega⟩), fun z hz => hq z (hb z hz)⟩
  obtain ⟨N, hN⟩ : ∃ N, ps.length = N := ⟨_, rfl⟩
  have hN1 : N ≤ 1000000 := by omega
  have hN0 : 0 < N := by omega
  rw [hN] at CC ⊢
  clear hn hp0
  replace h := Lib.hid h; replace hq := Lib.hid hq; replace hA := Lib.hid hA; replace hl := Lib.hid hl; replace hc := Lib.hid hc; replace hln := Lib.hid hln; replace hone := Lib.hid hone; replace CC := Lib.hid CC; replace hWc := Lib.hid hWc; replace hN := Lib.hid hN
  go_enter Try.func81, Try.ntmps81
  go_wp2_with fail
  refine CC.out.mono ?_
  rintro e w2 ⟨v2, b2, rfl, hr2, hb2, f2⟩
  have hW2 := hWc.out w2 v2 b2 (by rw [hN.out]; exact hr2) hb2 f2
  have SC := sortC_any q w2 v2 ps b2 hW2 (fun p hp => by have := hl.out p hp; omega) (by have := hN.out; omega)
  obtain ⟨o2, c2, rfl⟩ := hr2.len
  replace hr2 := Lib.hid hr2; replace hb2 := Lib.hid hb2; replace f2 := Lib.hid f2; replace hW2 := Lib.hid hW2; replace SC := Lib.hid SC
  go_wp2_with fail
  refine SC.out.mono ?_
  rintro e w3 ⟨ps3, rfl, hp3, hs3, hW3, f3⟩
  have hl3 : ps3.length = N := by rw [hp3.length_eq, hN.out]
  have hm3 : ∀ p, p ∈ ps3 ↔ p ∈ ps := fun p => hp3.mem_iff
  have hpw : (wds ps3).Perm (wds ps) := hp3.map _
  have I0 : WhI w3 ps3 w3 (.slice none 0 0) [] none 0 := ⟨Row.nil 1 _ none, by simp, by simp [keepTo, wds], by simp, by simp, Fr.refl _ _⟩
  have hcell : ∀ i (hi : i < ps3.length), ∃ b off, o2 = some ⟨b, off, none⟩ ∧ b < w3.heap.size ∧ w3.cell? ⟨b, off + i, none⟩ = some ps3[i].1 := fun i hi => by
    rcases hW3.row with ⟨_, h2, _⟩ | ⟨b, off, cap, hb, e, h4, h5, h6, h7, h8⟩
    · omega
    · cases e
      refine ⟨b, off, rfl, h5, ?_⟩
      rw [h8 i (by omega)]; simp [hi]
  have hF3 : Fr [] w w3 := f2.out.step f3 (fun z hz => .inr (hb2.out z (by simpa using hz)))
  replace hp3 := Lib.hid hp3; replace hs3 := Lib.hid hs3; replace hW3 := Lib.hid hW3; replace f3 := Lib.hid f3; replace hl3 := Lib.hid hl3; replace hm3 := Lib.hid hm3; replace hpw := Lib.hid hpw; replace I0 := Lib.hid I0; replace hcell := Lib.hid hcell; replace hF3 := Lib.hid hF3
  go_wp2_with fail
  go_loopg [4, 13] (N + 1) (fun k v4 v13 wr => ∃ (i : Nat) (ks : List (Value × List Int)) (b4 : Option Nat), i ≤ N ∧ k + i = N + 1 ∧ v13 = .int .i64 i ∧ WhI w3 ps3 wr v4 ks b4 i)
  case atStart => exact ⟨0, [], none, by omega, by omega, by go_num, I0.out⟩
  case round =>
    obtain ⟨i, ks, b4, hi, hk, rfl, hI⟩ := hrel
    obtain ⟨wi, rfl⟩ : ∃ x : World, x = wr := ⟨_, rfl⟩
    by_cases hlt : i < N
    · have hltI : (i : Int) < N := by omega
      have hip : i < ps3.length := by have := hl3.out; omega
      obtain ⟨bS, oS, rfl, hbS, c1⟩ := hcell.out i hip
      have c1 := (hI.fr.cell (p := ⟨bS, oS + i, none⟩) hbS (by simp)).trans c1
      have hmi := (hm3.out _).mp (List.getElem_mem hip)
      obtain ⟨ow, cw, hvw, hcw⟩ := hc.out _ hmi
      have hlw := hl.out _ hmi
      have h1c := hone.out _ hmi
      have e1 : (wds ps3).getD i [] = ps3[i].2 := by
        unfold wds
        rw [List.getD_eq_getElem?_getD, List.getElem?_map, List.getElem?_eq_getElem hip]; rfl
      have hwl : (wds ps3).length = ps3.length := by unfold wds; exact List.length_map _
      have ADD := fun (W : World) (f : Fr [] wi W) (hn : nxtB (wds ps3) i = false) => hI.add f hip hn (by omega) h1c
      have nw : ∀ W, Fr [] wi W → NIn W ps3[i].1 ps3[i].2 := fun W f => ((hW3.out.each _ (List.getElem_mem hip)).nin).fr (hI.fr.trans f)
      obtain ⟨lw, hlw2⟩ : ∃ x, ps3[i].2.length = x := ⟨_, rfl⟩
      rw [hvw, hlw2] at c1 ADD
      rw [hvw] at nw
      rw [hlw2] at nw hcw hlw
      by_cases hi1 : i + 1 < N
      · have hi1I : (i : Int) + 1 < N := by omega
        have hip1 : i + 1 < ps3.length := by have := hl3.out; omega
        obtain ⟨bS', oS', e9, hbS', c2⟩ := hcell.out (i + 1) hip1
        cases e9
        have c2 := (hI.fr.cell (p := ⟨bS, oS + (i + 1), none⟩) hbS' (by simp)).trans c2
        have hmi2 := (hm3.out _).mp (List.getElem_mem hip1)
        obtain ⟨on, cn, hvn, hcn⟩ := hc.out _ hmi2
        have e2 : (wds ps3).getD (i + 1) [] = ps3[i + 1].2 := by
          unfold wds
          rw [List.getD_eq_getElem?_getD, List.getElem?_map, List.getElem?_eq_getElem hip1]; rfl
        have nn : ∀ W, Fr [] wi W → NIn W ps3[i + 1].1 ps3[i + 1].2 := fun W f => ((hW3.out.each _ (List.getElem_mem hip1)).nin).fr (hI.fr.trans f)
        have hNX : nxtB (wds ps3) i = (decide (ps3[i].2.length ≤ ps3[i + 1].2.length) && decide (ps3[i + 1].2.take ps3[i].2.length = ps3[i].2)) := by
          unfold nxtB
          rw [e1, e2, decide_eq_true (by omega : i + 1 < (wds ps3).length), Bool.true_and]
        have hln2 := hl.out _ hmi2
        obtain ⟨ln, hln3⟩ : ∃ x, ps3[i + 1].2.length = x := ⟨_, rfl⟩
        rw [hvn, hln3] at c2
        rw [hvn, hln3] at nn
        rw [hln3] at hcn hln2
        rw [hlw2, hln3] at hNX
        have hwr : IntKind.i64.wrap ((i : Int) + 1) = ((i + 1 : Nat) : Int) := by rw [IntKind.wrap_i64]; omega
        by_cases hle : lw ≤ ln
        · have hleI : (lw : Int) ≤ (ln : Int) := by omega
          have hlc : lw ≤ cn := by omega
          rw [decide_eq_true hle, Bool.true_and] at hNX
          have EQ : ∀ W (o' : Option Addr), Fr [] wi W → (lw = 0 ∨ o' = on) → Calls Try.prog 66 #[.slice o' lw cn, .slice ow lw cw] W fun e w' => e = .returned (.bool (decide (ps3[i + 1].2.take lw = ps3[i].2))) ∧ Fr [] W w' := fun W o' f ho => by
            have n1 : NIn W (.slice o' lw cn) (ps3[i + 1].2.take lw) := by
              rcases ho with h0 | rfl
              · rw [h0, List.take_zero]; exact ⟨o', cn, rfl, fun i hi => by simp at hi⟩
              · exact (nn W f).take lw (by omega)
            exact equal_any _ _ _ _ W n1 (nw W f) (by rw [List.length_take]; omega)
          obtain ⟨R, hR⟩ : ∃ x, decide (ps3[i + 1].2.take lw = ps3[i].2) = x := ⟨_, rfl⟩
          rw [hR] at EQ hNX
          have hform : lw = 0 ∨ (∃ B o, on = some ⟨B, o, none⟩ ∧ 0 < cn) := by
            by_cases h0 : lw = 0
            · exact .inl h0
            · obtain ⟨o', c', e', hl'⟩ := nn wi (Fr.refl _ _)
              obtain ⟨B, of, e2, _⟩ := hl' 0 (by omega)
              cases e'
              exact .inr ⟨B, of, e2, by omega⟩
          replace hI := Lib.hid hI; replace hbS := Lib.hid hbS; replace hbS' := Lib.hid hbS'; replace hmi := Lib.hid hmi; replace hmi2 := Lib.hid hmi2; replace hvw := Lib.hid hvw; replace hcw := Lib.hid hcw; replace h1c := Lib.hid h1c; replace e1 := Lib.hid e1; replace e2 := Lib.hid e2; replace hwl := Lib.hid hwl; replace ADD := Lib.hid ADD; replace nw := Lib.hid nw; replace nn := Lib.hid nn; replace hNX := Lib.hid hNX; replace hlw2 := Lib.hid hlw2; replace hln3 := Lib.hid hln3; replace hvn := Lib.hid hvn; replace hcn := Lib.hid hcn; replace EQ := Lib.hid EQ; replace hR := Lib.hid hR
          rcases hform with h0 | ⟨B, of, rfl, hcn0⟩
          · subst h0
            clear hle hleI hlc
            have hlnI : (0 : Int) ≤ (ln : Int) := by omega
            go_wp2_with fail
            refine (EQ.out _ _ (Fr.refl _ _) (.inl (by first | trivial | rfl))).mono ?_
            rintro e w5 ⟨rfl, f5⟩
            cases R
            · have hF := Fr.trans (Fr.refl [] wi) f5
              obtain ⟨v9, w9, b9, happ, hI9⟩ := ADD.out _ f5 hNX.out
              replace happ := Lib.hid happ; replace hI9 := Lib.hid hI9
              go_wp2_with (first | (at_builtin; refine wpList_append_run _ rfl _ _ _ rfl rfl rfl happ.out ?_))
              go_roundg (gk - 1)
              case measure => omega
              case rel => exact ⟨i + 1, _, _, by omega, by omega, by go_num, hI9.out⟩
            · have hI2 := hI.out.skip f5 hNX.out
              replace hI2 := Lib.hid hI2; replace f5 := Lib.hid f5
              go_wp2_with fail
              go_roundg (gk - 1)
              case measure => omega
              case rel => exact ⟨i + 1, _, _, by omega, by omega, by go_num, hI2.out⟩
          · have hcn1 : ¬ cn = 0 := by omega
            go_wp2_with fail
            refine (EQ.out _ _ (Fr.refl _ _) (.inr rfl)).mono ?_
            rintro e w5 ⟨rfl, f5⟩
            cases R
            · have hF := Fr.trans (Fr.refl [] wi) f5
              obtain ⟨v9, w9, b9, happ, hI9⟩ := ADD.out _ f5 hNX.out
              replace happ := Lib.hid happ; replace hI9 := Lib.hid hI9
              go_wp2_with (first | (at_builtin; refine wpList_append_run _ rfl _ _ _ rfl rfl rfl happ.out ?_))
              go_roundg (gk - 1)
              case measure => omega
              case rel => exact ⟨i + 1, _, _, by omega, by omega, by go_num, hI9.out⟩
            · have hI2 := hI.out.skip f5 hNX.out
              replace hI2 := Lib.hid hI2; replace f5 := Lib.hid f5
              go_wp2_with fail
              go_roundg (gk - 1)
              case measure => omega
              case rel => exact ⟨i + 1, _, _, by omega, by omega, by go_num, hI2.out⟩
        · have hleI : ¬ (lw : Int) ≤ (ln : Int) := by omega
          rw [decide_eq_false hle, Bool.false_and] at hNX
          replace hI := Lib.hid hI; replace hbS := Lib.hid hbS; replace hbS' := Lib.hid hbS'; replace hmi := Lib.hid hmi; replace hmi2 := Lib.hid hmi2; replace hvw := Lib.hid hvw; replace hcw := Lib.hid hcw; replace h1c := Lib.hid h1c; replace e1 := Lib.hid e1; replace e2 := Lib.hid e2; replace hwl := Lib.hid hwl; replace ADD := Lib.hid ADD; replace nw := Lib.hid nw; replace nn := Lib.hid nn; replace hlw2 := Lib.hid hlw2; replace hln3 := Lib.hid hln3; replace hvn := Lib.hid hvn; replace hcn := Lib.hid hcn
          obtain ⟨v9, w9, b9, happ, hI9⟩ := ADD.out _ (Fr.refl _ _) hNX
          replace happ := Lib.hid happ; replace hI9 := Lib.hid hI9; replace hNX := Lib.hid hNX
          go_wp2_with (first | (at_builtin; refine wpList_append_run _ rfl _ _ _ rfl rfl rfl happ.out ?_))
          go_roundg (gk - 1)
          case measure => omega
          case rel => exact ⟨i + 1, _, _, by omega, by omega, by go_num, hI9.out⟩
      · have hi1I : ¬ (i : Int) + 1 < N := by omega
        have hNX : nxtB (wds ps3) i = false := by
          unfold nxtB
          rw [decide_eq_false (by have := hl3.out; omega : ¬ i + 1 < (wds ps3).length)]; rfl
        replace hI := Lib.hid hI; replace hbS := Lib.hid hbS; replace hmi := Lib.hid hmi; replace hvw := Lib.hid hvw; replace hcw := Lib.hid hcw; replace h1c := Lib.hid h1c; replace e1 := Lib.hid e1; replace hwl := Lib.hid hwl; replace ADD := Lib.hid ADD; replace nw := Lib.hid nw; replace hlw2 := Lib.hid hlw2
        obtain ⟨v9, w9, b9, happ, hI9⟩ := ADD.out _ (Fr.refl _ _) hNX
        replace happ := Lib.hid happ; replace hI9 := Lib.hid hI9; replace hNX := Lib.hid hNX
        go_wp2_with (first | (at_builtin; refine wpList_append_run _ rfl _ _ _ rfl rfl rfl happ.out ?_))
        go_roundg (gk - 1)
        case measure => omega
        case rel => exact ⟨i + 1, _, _, by omega, by omega, by go_num, hI9.out⟩
    · obtain rfl : i = N := by omega
      have hltI : ¬ (i : Int) < (i : Int) := by omega
      have hwl : (wds ps3).length = ps3.length := by unfold wds; exact List.length_map _
      have hKW : Wds q wi u4 ks b4 := ⟨hI.row, fun p hp => ((hW3.out.each p (hI.sub p hp)).frq hI.fr (fun x hx hqx => ⟨by simp, hqx.1, fun hm => by have := hI.new x (by simpa using hm); omega⟩)), fun z hz => hq.out z (by have := hI.new z hz; have := hF3.out.size; omega)⟩
      have SB := sortW_any q wi u4 ks b4 hKW (fun p hp => by have := hl.out p ((hm3.out p).mp (hI.sub p hp)); omega) (by have := hI.len; omega)
      obtain ⟨o4, c4, rfl⟩ := hI.row.len
      replace hI := Lib.hid hI; replace hwl := Lib.hid hwl; replace hKW := Lib.hid hKW; replace SB := Lib.hid SB
      go_wp2_with fail
      refine SB.out.mono ?_
      rintro e w6 ⟨ps6, rfl, hp6, hs6, hW6, f6⟩
      have hfin : wds ps6 = wholeL (wds ps) := whole_eq hA.out hpw.out (by have h1 := hs3.out; exact List.Pairwise.imp (fun {a b} h => by omega) h1) (by
        have h1 : (wds ps6).Perm (wds ks) := hp6.map _
        rw [hI.out.eq] at h1
        rw [hwl.out, hl3.out]; exact h1) (List.Pairwise.imp (fun {a b} h => by omega) hs6)
      have GO : WholeR q w (wds ps) (.returned (.slice o4 ks.length c4)) w6 := ⟨_, ps6, b4, rfl, hfin, hW6, (hF3.out.trans hI.out.fr).step f6 (fun z hz => .inr (by have := hI.out.new z (by simpa using hz); have := hF3.out.size; omega))⟩
      replace hp6 := Lib.hid hp6; replace hs6 := Lib.hid hs6; replace hW6 := Lib.hid hW6; replace f6 := Lib.hid f6; replace hfin := Lib.hid hfin; replace GO := Lib.hid GO
      go_wp2_with fail
      go_ret
      exact GO.out
end Go.Proofs.Ytnggimkkjdipmaa
