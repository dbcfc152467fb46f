import Derived.Test.YtnggimkkjdipmaaTK1
namespace Go.Proofs.Ytnggimkkjdipmaa
open Go.RowKit
set_option linter.unusedVariables false
set_option linter.unusedSimpArgs false
set_option maxHeartbeats 16000000
set_option maxRecDepth 100000
def ownL (B S : Nat) : List Nat := (List.range S).filter fun b => decide (B ≤ b)
theorem mem_own (B S b : Nat) : b ∈ ownL B S ↔ B ≤ b ∧ b < S := by
  unfold ownL; rw [List.mem_filter, List.mem_range, decide_eq_true_eq]; exact ⟨fun h => ⟨h.2, h.1⟩, fun h => ⟨h.2, h.1⟩⟩
theorem ORows.bound {q : Nat → Prop} {w : World} {rv : Value} {rows : List (List (Int × Int))} {us : List Value} {bo : Option Nat} {bs : Nat → Option Nat} (h : ORows q w rv rows us bo bs) : ORows (fun b => q b ∧ b < w.heap.size) w rv rows us bo bs :=
  ⟨h.row, h.len, h.each, h.inj, h.nbo, fun z hz => ⟨h.qo z hz, h.lto z hz⟩, fun k z hk hz => ⟨h.qs k z hk hz, h.lts k z hk hz⟩⟩
theorem Row.set1 {w : World} {o : Option Addr} {n c : Nat} {us : List Value} {bo : Option Nat} (h : Row 1 w (.slice o n c) n us bo) (i : Nat) (hi : i < n) (u : Value) :
    ∃ b off, o = some ⟨b, off, none⟩ ∧ bo = some b ∧ b < w.heap.size ∧ (∃ x, w.cell? ⟨b, off + i, none⟩ = some x) ∧ w.frozen? ⟨b, off + i, none⟩ = false ∧ Row 1 (w.setCell ⟨b, off + i, none⟩ u) (.slice o n c) n (us.set i u) bo ∧ Fr [b] w (w.setCell ⟨b, off + i, none⟩ u) := by
  rcases h with ⟨_, h2, _⟩ | ⟨b, off, cap, hb, hv, h3, h4, h5, h6, h7⟩
  · omega
  · cases hv
    have a1 := h6 i (by omega)
    obtain ⟨x, hx⟩ := Option.isSome_iff_exists.mp a1.1
    have f : Fr [b] w (w.setCell ⟨b, off + i, none⟩ u) := (Fr.refl _ w).setCell (by simp) _
    have key : ∀ j, (w.setCell ⟨b, off + i, none⟩ u).cell? ⟨b, off + j, none⟩ = if j = i then some u else w.cell? ⟨b, off + j, none⟩ := fun j => by
      by_cases e : j = i
      · subst e; rw [if_pos rfl, World.cell?_setCell_same _ _ _ hx]
      · rw [if_neg e, World.cell?_setCell_other _ _ _ _ (by intro e'; injection e'; omega)]
    refine ⟨b, off, rfl, hb, h4, ⟨x, hx⟩, a1.2, .inr ⟨b, off, c, hb, rfl, h3, by simpa [World.setCell] using h4, by simpa using h5, fun j hj => ?_, fun j hj => ?_⟩, f⟩
    · refine ⟨?_, by rw [World.frozen?_setCell]; exact (h6 j hj).2⟩
      rw [key]; split
      · rfl
      · exact (h6 j hj).1
    · rw [key, h7 j hj]
      by_cases e : j = i
      · subst e; rw [if_pos rfl, List.getElem?_set_self (by omega)]
      · rw [if_neg e, List.getElem?_set_ne (fun e' => e e'.symm)]
theorem leastF_ok (T : Tb) : VT (leastF T).1 ∨ (leastF T).1 = Tb.none := by
  unfold leastF
  cases hv : validT T
  · exact .inr rfl
  · have hV := (validT_iff T).mp hv
    exact .inl (least_valid hV)
theorem fits_of {X : Tb} (h : VT X ∨ X = Tb.none) : Fits X := by
  rcases h with h | rfl
  · exact h.fits
  · exact ⟨by simp [Tb.none], by simp [Tb.none]⟩
theorem set_lens (rows : List (List (Int × Int))) (i : Nat) (h : i < rows.length) (l : List (Int × Int)) (hl : l.length = rows[i].length) : (rows.set i l).map List.length = rows.map List.length := by
  apply List.ext_getElem
  · simp
  · intro k h1 h2
    rw [List.getElem_map, List.getElem_map, List.getElem_set]
    split
    · rename_i e; subst e; exact hl
    · rfl
set_option maxRecDepth 200000 in
theorem tkeeps_any (T : Tb) (v : Value) (n : Int) (hn : -9223372036854775808 ≤ n ∧ n ≤ 9223372036854775807) (w : World) (hT : TIn w v T) (hz : Fits T) :
    Calls Try.prog 11 #[v, .int .i64 n] w fun e w' => e = .returned (.bool true) ∧ Fr [] w w' := by
  obtain ⟨r, rfl, hR⟩ := hT
  rw [show T.val r = .agg #[.int .i64 T.st, .int .i64 T.ev, .int .i64 T.sr, r] from rfl]
  have hXo := mutantF_ok T n
  have hLo := leastF_ok T
  obtain ⟨⟨X, z⟩, hX⟩ : ∃ y, mutantF T n = y := ⟨_, rfl⟩
  obtain ⟨⟨L, z2⟩, hL⟩ : ∃ y, leastF T = y := ⟨_, rfl⟩
  rw [hX] at hXo
  rw [hL] at hLo
  dsimp only at hXo hLo
  have hzX := fits_of hXo
  have hzL := fits_of hLo
  have MA : ∀ W, Fr [] w W → Calls Try.prog 38 #[.agg #[.int .i64 T.st, .int .i64 T.ev, .int .i64 T.sr, r], .int .i64 n] W (MutR X z W) := fun W f => by
    have := Mutant_any T _ n hn W ⟨r, rfl, hR.fr f⟩
    rw [hX] at this
    exact this
  have LE : ∀ W, Fr [] w W → Calls Try.prog 31 #[.agg #[.int .i64 T.st, .int .i64 T.ev, .int .i64 T.sr, r]] W (LeaO L z2 W) := fun W f => by
    have := Least_own T _ W ⟨r, rfl, hR.fr f⟩
    rw [hL] at this
    exact this
  have TO : ∀ W, Fr [] w W → Calls Try.prog 18 #[.agg #[.int .i64 T.st, .int .i64 T.ev, .int .i64 T.sr, r]] W fun e w' => ∃ rv, e = .returned (.agg #[.int .i64 T.st, .int .i64 T.ev, .int .i64 T.sr, rv]) ∧ RInB (fun b => W.heap.size ≤ b) w' rv T.rows ∧ Fr [] W w' := fun W f => to_fresh T _ W ⟨r, rfl, hR.fr f⟩ hz
  obtain ⟨w1, hw1⟩ : ∃ x, w.alloc (.cells #[.int .i64 T.st, .int .i64 T.ev, .int .i64 T.sr, r] TTab) = x := ⟨_, rfl⟩
  have P1 := Pt.newA w TTab #[.int .i64 T.st, .int .i64 T.ev, .int .i64 T.sr, r]
  rw [hw1] at P1
  have F1 : Fr [] w w1 := by rw [← hw1]; exact (Fr.refl [] w).alloc _
  obtain ⟨b1, hb1⟩ : ∃ x, w.heap.size = x := ⟨_, rfl⟩
  rw [hb1] at P1
  have l1 := P1.lt
  have k1 := P1.cell
  have s1 := F1.size
  replace P1 := Lib.hid P1; replace F1 := Lib.hid F1; replace MA := Lib.hid MA; replace LE := Lib.hid LE; replace TO := Lib.hid TO; replace hX := Lib.hid hX; replace hL := Lib.hid hL; replace hXo := Lib.hid hXo; replace hLo := Lib.hid hLo; replace hzX := Lib.hid hzX; replace hzL := Lib.hid hzL; replace hn := Lib.hid hn; replace hR := Lib.hid hR; replace hz := Lib.hid hz
  go_enter Try.func11, Try.ntmps11
  go_wp2_with fail
  refine (TO.out _ F1.out).mono ?_
  rintro e w2 ⟨ra, rfl, hra, f2⟩
  obtain ⟨oa, na, ca, hrae⟩ := hra.shape
  subst hrae
  clear k1 hw1 hb1
  obtain ⟨w3, hw3⟩ : ∃ x, w2.alloc (.cells #[.int .i64 T.st, .int .i64 T.ev, .int .i64 T.sr, .slice oa na ca] RTab) = x := ⟨_, rfl⟩
  have P2 := Pt.newA w2 RTab #[.int .i64 T.st, .int .i64 T.ev, .int .i64 T.sr, .slice oa na ca]
  rw [hw3] at P2
  have F3 : Fr [] w2 w3 := by rw [← hw3]; exact (Fr.refl [] w2).alloc _
  obtain ⟨b2, hb2⟩ : ∃ x, w2.heap.size = x := ⟨_, rfl⟩
  rw [hb2] at P2
  have f13 := f2.trans F3
  have F03 := F1.out.trans f13
  have P13 := f13.pt P1.out (by simp)
  have k1 := P13.cell
  have s2 := f2.size
  have l2 := P2.lt
  have b2w : w2.heap.size ≤ b2 := by omega
  replace f2 := Lib.hid f2; replace hra := Lib.hid hra; replace F3 := Lib.hid F3; replace f13 := Lib.hid f13; replace F03 := Lib.hid F03; replace P13 := Lib.hid P13; replace P2 := Lib.hid P2
  go_wp2_with fail
  refine (MA.out _ F03.out).mono ?_
  rintro e w4 ⟨rv, us, bo, bs, rfl, hO, f4⟩
  have s4 := f4.size
  obtain ⟨orv, nrv, crv, hrve⟩ := hO.rinb.shape
  subst hrve
  have hON := hO.len
  have hrn : nrv = X.rows.length := by
    obtain ⟨o, c, e⟩ := hO.row.len
    cases e; exact hO.len
  clear k1 hw3 hb2
  obtain ⟨w5, hw5⟩ : ∃ x, w4.alloc (.cells #[.int .i64 X.st, .int .i64 X.ev, .int .i64 X.sr, .slice orv nrv crv] TTab) = x := ⟨_, rfl⟩
  have P5 := Pt.newA w4 TTab #[.int .i64 X.st, .int .i64 X.ev, .int .i64 X.sr, .slice orv nrv crv]
  rw [hw5] at P5
  have F5 : Fr [] w4 w5 := by rw [← hw5]; exact (Fr.refl [] w4).alloc _
  obtain ⟨b5, hb5⟩ : ∃ x, w4.heap.size = x := ⟨_, rfl⟩
  rw [hb5] at P5
  have F05 := (F03.out.trans f4).trans F5
  have hO5 := hO.bound.fr F5 (by simp)
  have k5 := P5.cell
  have TX := to_fresh X (X.val (.slice orv nrv crv)) w5 ⟨_, rfl, hO5.rin⟩ hzX.out
  rw [show X.val (.slice orv nrv crv) = .agg #[.int .i64 X.st, .int .i64 X.ev, .int .i64 X.sr, .slice orv nrv crv] from rfl] at TX
  have b5S : w4.heap.size = b5 := hb5
  have hnrv : nrv ≤ 6000000000000 := by have := hzX.out.1; rw [← hrn] at this; omega
  obtain ⟨B, hB⟩ : ∃ y, w3.heap.size = y := ⟨_, rfl⟩
  obtain ⟨S, hS⟩ : ∃ y, w4.heap.size = y := ⟨_, rfl⟩
  rw [hB, hS] at hO5
  have hBS : B ≤ S := by omega
  have hb5S : S ≤ b5 := by omega
  have s5 := F5.size
  replace f4 := Lib.hid f4; replace hO := Lib.hid hO; replace F5 := Lib.hid F5; replace F05 := Lib.hid F05; replace hO5 := Lib.hid hO5; replace P5 := Lib.hid P5; replace TX := Lib.hid TX; replace hON := Lib.hid hON; replace hrn := Lib.hid hrn; replace b5S := Lib.hid b5S; replace hB := Lib.hid hB; replace hS := Lib.hid hS
  go_wp2_with fail
  refine (TX.out).mono ?_
  rintro e w6 ⟨rk, rfl, hrk, f6⟩
  obtain ⟨ok, nk, ck, hrke⟩ := hrk.shape
  subst hrke
  have s6 := f6.size
  clear k5 hw5 hb5
  obtain ⟨w7, hw7⟩ : ∃ x, w6.alloc (.cells #[.int .i64 X.st, .int .i64 X.ev, .int .i64 X.sr, .slice ok nk ck] RTab) = x := ⟨_, rfl⟩
  have P7 := Pt.newA w6 RTab #[.int .i64 X.st, .int .i64 X.ev, .int .i64 X.sr, .slice ok nk ck]
  rw [hw7] at P7
  have F7 : Fr [] w6 w7 := by rw [← hw7]; exact (Fr.refl [] w6).alloc _
  obtain ⟨b7, hb7⟩ : ∃ x, w6.heap.size = x := ⟨_, rfl⟩
  rw [hb7] at P7
  have f57 := f6.trans F7
  have P57 := f57.pt P5.out (by simp)
  have hO7 := hO5.out.fr f57 (by simp)
  have F07 := F05.out.trans f57
  have l7 := P7.lt
  have k5 := P57.cell
  have b7S : S ≤ b7 := by have := hS.out; omega
  replace hrk := Lib.hid hrk; replace f6 := Lib.hid f6; replace F7 := Lib.hid F7; replace f57 := Lib.hid f57; replace P57 := Lib.hid P57; replace hO7 := Lib.hid hO7; replace F07 := Lib.hid F07; replace P7 := Lib.hid P7
  go_wp2_with fail
  clear k5 hw7 hb7
  go_loopg [9] (nrv + 1) (fun k v9 wr => ∃ (i : Nat) (rows' : List (List (Int × Int))), i ≤ nrv ∧ k + i = nrv + 1 ∧ v9 = .int .i64 i ∧ rows'.map List.length = X.rows.map List.length ∧ ORows (fun b => B ≤ b ∧ b < S) wr (.slice orv nrv crv) rows' us bo bs ∧ Fr (ownL B S) w7 wr)
  case atStart => exact ⟨0, X.rows, by omega, by omega, rfl, rfl, hO7.out, Fr.refl _ _⟩
  case round =>
    obtain ⟨i, rows', hi, hk, rfl, hmap, hO, hF⟩ := hrel
    obtain ⟨wi, rfl⟩ : ∃ x : World, x = wr := ⟨_, rfl⟩
    obtain ⟨gi, rfl⟩ : ∃ g : Nat, g = gk := ⟨_, rfl⟩
    have hb5n : b5 ∉ ownL B S := fun hm => by rw [mem_own] at hm; omega
    have p5 := hF.pt P57.out hb5n
    have k5 := p5.cell
    have hlen : rows'.length = nrv := by have := congrArg List.length hmap; simp at this; rw [this, hrn.out]
    by_cases hlt : i < nrv
    · have hltI : (i : Int) < nrv := by omega
      have hir : i < rows'.length := by omega
      obtain ⟨rl, hrl⟩ : ∃ y, rows'[i].length = y := ⟨_, rfl⟩
      have hrl12 : rl ≤ 9000000000000 := by
        have h1 := hzX.out.2 (X.rows[i]'(by rw [← hrn.out]; exact hlt)) (List.getElem_mem _)
        have h2 := congrArg (·[i]?) hmap
        simp [hir, show i < X.rows.length by rw [← hrn.out]; exact hlt] at h2
        omega
      replace hmap := Lib.hid hmap; replace hO := Lib.hid hO; replace hF := Lib.hid hF; replace p5 := Lib.hid p5; replace hlen := Lib.hid hlen; replace hrl := Lib.hid hrl
      go_wp2_with fail
      clear k5
      go_loopg [10] (rl + 1) (fun k v10 wr => ∃ (j : Nat) (rows' : List (List (Int × Int))), j ≤ rl ∧ k + j = rl + 1 ∧ v10 = .int .i64 j ∧ rows'.map List.length = X.rows.map List.length ∧ (∃ h : i < rows'.length, rows'[i].length = rl) ∧ ORows (fun b => B ≤ b ∧ b < S) wr (.slice orv nrv crv) rows' us bo bs ∧ Fr (ownL B S) w7 wr)
      case atStart => exact ⟨0, rows', by omega, by omega, rfl, hmap.out, ⟨hir, hrl.out⟩, hO.out, hF.out⟩
      clear hmap hO hF hrl hlen
      case round =>
        obtain ⟨j, rows', hj, hk2, rfl, hmap, ⟨hir, hrl⟩, hO, hF⟩ := hrel
        have p5 := hF.pt P57.out hb5n
        have k5 := p5.cell
        have hlen : rows'.length = nrv := by have := congrArg List.length hmap; simp at this; rw [this, hrn.out]
        -- the row itself, whichever column
        have hrow : ∃ br or bz oz cz, orv = some ⟨br, or, none⟩ ∧ wr.cell? ⟨br, or + i, none⟩ = some (.slice (some ⟨bz, oz, none⟩) rl cz) ∨ rl = 0 := by
          by_cases h0 : rl = 0
          · exact ⟨0, 0, 0, 0, 0, .inr h0⟩
          · obtain ⟨br, or, cr, bz, oz, cz, e1, _, e2, _⟩ := hO.put i 0 hir (by omega) (0, 0)
            cases e1
            exact ⟨br, or, bz, oz, cz, .inl ⟨rfl, by rw [e2, hrl]⟩⟩
        by_cases hjl : j < rl
        · as_aux_lemma =>
          have hjlI : (j : Int) < rl := by omega
          obtain ⟨br, or, cr, bz, oz, cz, e1, g1, g2, g3, g4, g5, g6, ⟨u1, g7⟩, ⟨u2, g8⟩, g9, g10, hO6, f6'⟩ := hO.put i j hir (by omega) (-9, -9)
          injection e1 with e1a e1b e1c
          subst e1a e1c
          rw [hrl] at g2
          have hm2 : (rows'.set i (rows'[i].set j (-9, -9))).map List.length = X.rows.map List.length := by rw [set_lens _ _ hir _ (by simp)]; exact hmap
          have hr2 : ∃ h : i < (rows'.set i (rows'[i].set j (-9, -9))).length, (rows'.set i (rows'[i].set j (-9, -9)))[i].length = rl := ⟨by simpa using hir, by simp [hrl]⟩
          obtain ⟨w8, hw8⟩ : ∃ y, (wr.setCell ⟨bz, oz + j * 2, none⟩ (.int .i64 (-9))).setCell ⟨bz, oz + j * 2 + 1, none⟩ (.int .i64 (-9)) = y := ⟨_, rfl⟩
          dsimp only at hO6 f6'
          rw [hw8] at hO6 f6'
          have F8 := hF.trans (f6'.mono (fun x hx => by simp at hx; subst hx; rw [mem_own]; exact g4))
          clear hrow
          replace hmap := Lib.hid hmap; replace hO := Lib.hid hO; replace hF := Lib.hid hF; replace p5 := Lib.hid p5; replace hlen := Lib.hid hlen; replace hrl := Lib.hid hrl; replace e1b := Lib.hid e1b; replace g3 := Lib.hid g3; replace g4 := Lib.hid g4; replace hO6 := Lib.hid hO6; replace f6' := Lib.hid f6'; replace hm2 := Lib.hid hm2; replace hr2 := Lib.hid hr2; replace F8 := Lib.hid F8
          go_wp2_with fail
          go_roundg (gk - 1)
          case measure => omega
          case rel => exact ⟨j + 1, _, by omega, by omega, by go_num, hm2.out, hr2.out, hO6.out, F8.out⟩
        · as_aux_lemma =>
          have hjlI : ¬ (j : Int) < rl := by omega
          rcases hrow with ⟨br, or, bz, oz, cz, ⟨e1, hc⟩ | h0⟩
          · subst e1
            replace hmap := Lib.hid hmap; replace hO := Lib.hid hO; replace hF := Lib.hid hF; replace p5 := Lib.hid p5; replace hlen := Lib.hid hlen; replace hrl := Lib.hid hrl
            go_wp2_with fail
            go_roundg (gi - 1)
            case measure => omega
            case rel => exact ⟨i + 1, rows', by omega, by omega, by go_num, hmap.out, hO.out, hF.out⟩
          · have hE := hO.each i (by rw [hO.len]; exact hir) hir
            obtain ⟨o3, c3, e3⟩ := hE.len
            rcases hO.row with ⟨_, h2, _⟩ | ⟨br, or, cr, hbr, hrv, g3, g4, g5, g6, g7⟩
            · exfalso; have := hO.len; omega
            · injection hrv with e1a e1b e1c
              subst e1a e1c
              have hc := g7 i (by have := hO.len; omega)
              rw [List.getElem?_eq_getElem (by rw [hO.len]; exact hir), e3, hrl] at hc
              replace hmap := Lib.hid hmap; replace hO := Lib.hid hO; replace hF := Lib.hid hF; replace p5 := Lib.hid p5; replace hlen := Lib.hid hlen; replace hrl := Lib.hid hrl; replace hE := Lib.hid hE; replace e3 := Lib.hid e3; replace hbr := Lib.hid hbr; replace e1b := Lib.hid e1b; replace g5 := Lib.hid g5; replace g6 := Lib.hid g6; replace g7 := Lib.hid g7
              go_wp2_with fail
              go_roundg (gi - 1)
              case measure => omega
              case rel => exact ⟨i + 1, rows', by omega, by omega, by go_num, hmap.out, hO.out, hF.out⟩
    · have hltI : ¬ (i : Int) < nrv := by omega
      obtain ⟨w8, rfl⟩ : ∃ x : World, x = wi := ⟨_, rfl⟩
      have F78 := hF
      have F08 : Fr [] w w8 := F07.out.step hF (fun x hx => .inr (by rw [mem_own] at hx; have := F03.out.size; have := hB.out; omega))
      have f38 : Fr [] w3 w8 := ((f4.out.trans F5.out).trans f57.out).step hF (fun x hx => .inr (by rw [mem_own] at hx; have := hB.out; omega))
      have P18 := f38.pt P13.out (by simp)
      have k1 := P18.cell
      have s8 := hF.size
      have MA8 := MA.out _ F08
      replace hmap := Lib.hid hmap; replace hO := Lib.hid hO; replace hF := Lib.hid hF; replace hlen := Lib.hid hlen; replace p5 := Lib.hid p5; replace F78 := Lib.hid F78; replace F08 := Lib.hid F08; replace f38 := Lib.hid f38; replace P18 := Lib.hid P18; replace MA8 := Lib.hid MA8
      go_wp2_with fail
      clear k5
      refine MA8.out.mono ?_
      rintro e w9 ⟨ry, us9, bo9, bs9, rfl, hO9, f9⟩
      have s9 := f9.size
      have hRy := hO9.rin
      have hRy' := hRy
      obtain ⟨oy, cy, hrye, _⟩ := hRy'
      subst hrye
      obtain ⟨nX, hnX⟩ : ∃ y, X.rows.length = y := ⟨_, rfl⟩
      rw [hnX] at hRy ⊢
      clear k1
      obtain ⟨w10, hw10⟩ : ∃ x, w9.alloc (.cells #[.int .i64 X.st, .int .i64 X.ev, .int .i64 X.sr, .slice oy nX cy] TTab) = x := ⟨_, rfl⟩
      have P10 := Pt.newA w9 TTab #[.int .i64 X.st, .int .i64 X.ev, .int .i64 X.sr, .slice oy nX cy]
      rw [hw10] at P10
      have F10 : Fr [] w9 w10 := by rw [← hw10]; exact (Fr.refl [] w9).alloc _
      obtain ⟨b10, hb10⟩ : ∃ x, w9.heap.size = x := ⟨_, rfl⟩
      rw [hb10] at P10
      have f8_10 := f9.trans F10
      have F010 := F08.out.trans f8_10
      have P110 := f8_10.pt P18.out (by simp)
      have k1 := P110.cell
      have s10 := F10.size
      have LE10 := LE.out _ F010
      replace hO9 := Lib.hid hO9; replace hRy := Lib.hid hRy; replace f9 := Lib.hid f9; replace F10 := Lib.hid F10; replace P10 := Lib.hid P10; replace f8_10 := Lib.hid f8_10; replace F010 := Lib.hid F010; replace P110 := Lib.hid P110; replace LE10 := Lib.hid LE10; replace hnX := Lib.hid hnX
      go_wp2_with fail
      refine LE10.out.mono ?_
      rintro e w11 ⟨ol, cl, usl, bol, rfl, hRl, hRwl, hbol, f11⟩
      have s11 := f11.size
      obtain ⟨nL, hnL⟩ : ∃ y, L.rows.length = y := ⟨_, rfl⟩
      rw [hnL] at hRl hRwl ⊢
      have hbol2 : ∀ z, bol = some z → z < w11.heap.size := fun z hz => by have h3 := hRwl; rw [hz] at h3; exact h3.lt
      clear k1 hw10 hb10
      obtain ⟨w12, hw12⟩ : ∃ x, w11.alloc (.cells #[.int .i64 L.st, .int .i64 L.ev, .int .i64 L.sr, .slice ol nL cl] TTab) = x := ⟨_, rfl⟩
      have P12 := Pt.newA w11 TTab #[.int .i64 L.st, .int .i64 L.ev, .int .i64 L.sr, .slice ol nL cl]
      rw [hw12] at P12
      have F12 : Fr [] w11 w12 := by rw [← hw12]; exact (Fr.refl [] w11).alloc _
      obtain ⟨b12, hb12⟩ : ∃ x, w11.heap.size = x := ⟨_, rfl⟩
      rw [hb12] at P12
      have f10_12 := f11.trans F12
      have F012 := F010.out.trans f10_12
      have k12 := P12.cell
      have s12 := F12.size
      have l12 := P12.lt
      have TL := to_fresh L (L.val (.slice ol nL cl)) w12 ⟨_, rfl, hRl.rin.fr F12⟩ hzL.out
      rw [show L.val (.slice ol nL cl) = .agg #[.int .i64 L.st, .int .i64 L.ev, .int .i64 L.sr, .slice ol nL cl] from rfl] at TL
      have hR12 := hRwl.fr F12 (by simp)
      obtain ⟨B2, hB2⟩ : ∃ y, w10.heap.size = y := ⟨_, rfl⟩
      obtain ⟨S2, hS2⟩ : ∃ y, w11.heap.size = y := ⟨_, rfl⟩
      have hb12 : b12 = S2 := by omega
      have hbolq : ∀ z, bol = some z → z ∈ ownL B2 S2 := fun z hz => by rw [mem_own]; have := hbol z hz; have := hbol2 z hz; omega
      replace hRl := Lib.hid hRl; replace hRwl := Lib.hid hRwl; replace hbol := Lib.hid hbol; replace hbol2 := Lib.hid hbol2; replace f11 := Lib.hid f11; replace F12 := Lib.hid F12; replace P12 := Lib.hid P12; replace f10_12 := Lib.hid f10_12; replace F012 := Lib.hid F012; replace TL := Lib.hid TL; replace hR12 := Lib.hid hR12; replace hB2 := Lib.hid hB2; replace hS2 := Lib.hid hS2; replace hbolq := Lib.hid hbolq; replace hnL := Lib.hid hnL; replace hb12 := Lib.hid hb12
      go_wp2_with fail
      refine TL.out.mono ?_
      rintro e w13 ⟨rw_, rfl, hrw, f13b⟩
      obtain ⟨ow, nw, cw, hrwe⟩ := hrw.shape
      subst hrwe
      have s13 := f13b.size
      clear k12 hw12
      obtain ⟨w14, hw14⟩ : ∃ x, w13.alloc (.cells #[.int .i64 L.st, .int .i64 L.ev, .int .i64 L.sr, .slice ow nw cw] RTab) = x := ⟨_, rfl⟩
      have P14 := Pt.newA w13 RTab #[.int .i64 L.st, .int .i64 L.ev, .int .i64 L.sr, .slice ow nw cw]
      rw [hw14] at P14
      have F14 : Fr [] w13 w14 := by rw [← hw14]; exact (Fr.refl [] w13).alloc _
      obtain ⟨b14, hb14⟩ : ∃ x, w13.heap.size = x := ⟨_, rfl⟩
      rw [hb14] at P14
      have f12_14 := f13b.trans F14
      have P1214 := f12_14.pt P12.out (by simp)
      have hR14 := hR12.out.fr f12_14 (by simp)
      have s14 := F14.size
      have l14 := P14.lt
      have hb14 : w13.heap.size ≤ b14 := by omega
      replace hrw := Lib.hid hrw; replace f13b := Lib.hid f13b; replace F14 := Lib.hid F14; replace P14 := Lib.hid P14; replace f12_14 := Lib.hid f12_14; replace P1214 := Lib.hid P1214; replace hR14 := Lib.hid hR14
      have k12 := P1214.out.cell
      go_wp2_with fail
      clear k12 hw14
      go_loopg [16] (nL + 1) (fun k v16 wr => ∃ (i : Nat) (us' : List Value), i ≤ nL ∧ k + i = nL + 1 ∧ v16 = .int .i64 i ∧ Row 1 wr (.slice ol nL cl) nL us' bol ∧ Fr (ownL B2 S2) w14 wr)
      case atStart => exact ⟨0, usl, by omega, by omega, rfl, hR14.out, Fr.refl _ _⟩
      case round =>
        obtain ⟨i2, us', hi2, hk2, rfl, hRr, hF2⟩ := hrel
        obtain ⟨w15, rfl⟩ : ∃ x : World, x = wr := ⟨_, rfl⟩
        have hb12n : b12 ∉ ownL B2 S2 := fun hm => by rw [mem_own] at hm; have := hb12.out; omega
        have p12 := hF2.pt P1214.out hb12n
        have k12 := p12.cell
        by_cases hlt2 : i2 < nL
        · as_aux_lemma =>
          have hlt2I : (i2 : Int) < nL := by omega
          have hnLs : nL ≤ 6000000000000 := by have := hzL.out.1; rw [hnL.out] at this; omega
          obtain ⟨bb, ob, e1, e2, g1, ⟨x1, g2⟩, g3, hRn, f16⟩ := hRr.set1 i2 hlt2 (.slice none 0 0)
          subst e1
          obtain ⟨w16, hw16⟩ : ∃ y, w15.setCell ⟨bb, ob + i2, none⟩ (.slice none 0 0) = y := ⟨_, rfl⟩
          rw [hw16] at hRn f16
          have F16 := hF2.trans (f16.mono (fun x hx => by simp at hx; subst hx; exact hbolq.out _ e2))
          replace hRr := Lib.hid hRr; replace hF2 := Lib.hid hF2; replace p12 := Lib.hid p12; replace e2 := Lib.hid e2; replace hRn := Lib.hid hRn; replace f16 := Lib.hid f16; replace F16 := Lib.hid F16
          go_wp2_with fail
          go_roundg (gk - 1)
          case measure => omega
          case rel => exact ⟨i2 + 1, _, by omega, by omega, by go_num, hRn.out, F16.out⟩
        · have hlt2I : ¬ (i2 : Int) < nL := by omega
          have s15 := hF2.size
          have own2 : ∀ x ∈ ownL B2 S2, w10.heap.size ≤ x ∧ x < w11.heap.size := fun x hx => by rw [mem_own] at hx; have := hB2.out; have := hS2.out; omega
          have f10_15 : Fr [] w10 w15 := (f10_12.out.trans f12_14.out).step hF2 (fun x hx => .inr (own2 x hx).1)
          have F015 := F010.out.trans f10_15
          have p1 := f10_15.pt P110.out (by simp)
          have k1 := p1.cell
          have LE15 := LE.out _ F015
          have b12v : b12 = S2 := hb12.out
          have S2v : w11.heap.size = S2 := hS2.out
          have lt1012 : w10.heap.size ≤ b12 := by omega
          replace hRr := Lib.hid hRr; replace hF2 := Lib.hid hF2; replace p12 := Lib.hid p12; replace own2 := Lib.hid own2; replace f10_15 := Lib.hid f10_15; replace F015 := Lib.hid F015; replace p1 := Lib.hid p1; replace LE15 := Lib.hid LE15; replace b12v := Lib.hid b12v; replace S2v := Lib.hid S2v
          go_wp2_with fail
          refine LE15.out.mono ?_
          rintro e w16 ⟨ol3, cl3, usl3, bol3, rfl, hRl3, hRwl3, hbol3, f16⟩
          rw [hnL.out] at hRl3 hRwl3 ⊢
          have b12i : b12 ≤ S2 ∧ S2 ≤ b12 := by have := b12v.out; omega
          have S2i : w11.heap.size ≤ S2 ∧ S2 ≤ w11.heap.size := by have := S2v.out; omega
          have p16 := f16.pt p12.out (by simp)
          have c16 := p16.cell
          have z16 := p16.free
          have q12 := (((p16.set 0 (.int .i64 L.st)).set 1 (.int .i64 L.ev)).set 2 (.int .i64 L.sr)).set 3 (.slice ol3 nL cl3)
          have f17 : Fr [b12] w16 ((((w16.setCell ⟨b12, 0, none⟩ (.int .i64 L.st)).setCell ⟨b12, 1, none⟩ (.int .i64 L.ev)).setCell ⟨b12, 2, none⟩ (.int .i64 L.sr)).setCell ⟨b12, 3, none⟩ (.slice ol3 nL cl3)) := ((((Fr.refl _ w16).setCell (by simp) _).setCell (by simp) _).setCell (by simp) _).setCell (by simp) _
          obtain ⟨w17, hw17⟩ : ∃ x, (((w16.setCell ⟨b12, 0, none⟩ (.int .i64 L.st)).setCell ⟨b12, 1, none⟩ (.int .i64 L.ev)).setCell ⟨b12, 2, none⟩ (.int .i64 L.sr)).setCell ⟨b12, 3, none⟩ (.slice ol3 nL cl3) = x := ⟨_, rfl⟩
          rw [hw17] at q12 f17
          simp only [List.set_cons_zero, List.set_cons_succ] at q12
          have f10_17 : Fr [] w10 w17 := (f10_15.out.trans f16).step f17 (fun x hx => .inr (by simp at hx; omega))
          have f8_17 := f8_10.out.trans f10_17
          have f3_17 := f38.out.trans f8_17
          have F017 := F08.out.trans f8_17
          have Q1 := f10_17.pt P110.out (by simp)
          have Q2 := f3_17.pt P2.out (by simp)
          have Q10 := f10_17.pt P10.out (by simp)
          have Q7 := f8_17.pt (F78.out.pt P7.out (fun hm => by rw [mem_own] at hm; omega)) (by simp)
          have Q12 := q12
          have Q14 := f17.pt (f16.pt (hF2.out.pt P14.out (fun hm => by have := (own2.out b14 hm).2; omega)) (by simp)) (by simp; omega)
          have Ra := (hra.out.rin.fr F3.out).fr f3_17
          have Ry := (hRy.out.fr F10.out).fr f10_17
          have Sv : S ≤ w4.heap.size ∧ w4.heap.size ≤ S := by have := hS.out; omega
          have Rk := ((((hrk.out.fr (q' := fun b => w5.heap.size ≤ b) F7.out (fun b _ hq => ⟨by simp, hq⟩)).fr (q' := fun _ => True) F78.out (fun b _ hq => ⟨fun hm => by rw [mem_own] at hm; have h9 : w5.heap.size ≤ b := hq; omega, trivial⟩)).rin).fr f8_17)
          have Rl := (hRl3.fr (q' := fun _ => True) f17 (fun b _ hq => ⟨fun hm => by have h9 : w15.heap.size ≤ b := hq; simp at hm; omega, trivial⟩)).rin
          have Rw := ((((hrw.out.fr (q' := fun b => w12.heap.size ≤ b) F14.out (fun b _ hq => ⟨by simp, hq⟩)).fr (q' := fun b => w12.heap.size ≤ b) hF2.out (fun b _ hq => ⟨fun hm => by have h9 : w12.heap.size ≤ b := hq; have := (own2.out b hm).2; omega, hq⟩)).fr (q' := fun b => w12.heap.size ≤ b) f16 (fun b _ hq => ⟨by simp, hq⟩)).fr (q' := fun _ => True) f17 (fun b _ hq => ⟨fun hm => by have h9 : w12.heap.size ≤ b := hq; simp at hm; omega, trivial⟩)).rin
          have SS : ∀ W, Fr [] w17 W → W.cell? ⟨b1, 0, none⟩ = some (.int .i64 T.st) ∧ W.cell? ⟨b1, 1, none⟩ = some (.int .i64 T.ev) ∧ W.cell? ⟨b1, 2, none⟩ = some (.int .i64 T.sr) ∧ W.cell? ⟨b1, 3, none⟩ = some (r) ∧ W.cell? ⟨b2, 0, none⟩ = some (.int .i64 T.st) ∧ W.cell? ⟨b2, 1, none⟩ = some (.int .i64 T.ev) ∧ W.cell? ⟨b2, 2, none⟩ = some (.int .i64 T.sr) ∧ W.cell? ⟨b2, 3, none⟩ = some (.slice oa na ca) ∧ W.cell? ⟨b10, 0, none⟩ = some (.int .i64 X.st) ∧ W.cell? ⟨b10, 1, none⟩ = some (.int .i64 X.ev) ∧ W.cell? ⟨b10, 2, none⟩ = some (.int .i64 X.sr) ∧ W.cell? ⟨b10, 3, none⟩ = some (.slice oy nX cy) ∧ W.cell? ⟨b7, 0, none⟩ = some (.int .i64 X.st) ∧ W.cell? ⟨b7, 1, none⟩ = some (.int .i64 X.ev) ∧ W.cell? ⟨b7, 2, none⟩ = some (.int .i64 X.sr) ∧ W.cell? ⟨b7, 3, none⟩ = some (.slice ok nk ck) ∧ W.cell? ⟨b12, 0, none⟩ = some (.int .i64 L.st) ∧ W.cell? ⟨b12, 1, none⟩ = some (.int .i64 L.ev) ∧ W.cell? ⟨b12, 2, none⟩ = some (.int .i64 L.sr) ∧ W.cell? ⟨b12, 3, none⟩ = some (.slice ol3 nL cl3) ∧ W.cell? ⟨b14, 0, none⟩ = some (.int .i64 L.st) ∧ W.cell? ⟨b14, 1, none⟩ = some (.int .i64 L.ev) ∧ W.cell? ⟨b14, 2, none⟩ = some (.int .i64 L.sr) ∧ W.cell? ⟨b14, 3, none⟩ = some (.slice ow nw cw) := fun W f => by
            have pb1 := (f.pt Q1 (by simp)).cell
            have pb2 := (f.pt Q2 (by simp)).cell
            have pb10 := (f.pt Q10 (by simp)).cell
            have pb7 := (f.pt Q7 (by simp)).cell
            have pb12 := (f.pt Q12 (by simp)).cell
            have pb14 := (f.pt Q14 (by simp)).cell
            exact ⟨pb1 0, pb1 1, pb1 2, pb1 3, pb2 0, pb2 1, pb2 2, pb2 3, pb10 0, pb10 1, pb10 2, pb10 3, pb7 0, pb7 1, pb7 2, pb7 3, pb12 0, pb12 1, pb12 2, pb12 3, pb14 0, pb14 1, pb14 2, pb14 3⟩
          have TQ1 : ∀ W, Fr [] w17 W → Calls Try.prog 18 #[.agg #[.int .i64 T.st, .int .i64 T.ev, .int .i64 T.sr, r]] W fun e w' => ∃ rv, e = .returned rv ∧ TIn w' rv T ∧ Fr [] w17 w' := fun W f => (to_any T _ W ⟨_, rfl, hR.out.fr (F017.trans f)⟩ hz.out).mono fun e w' ⟨rv, h1, h2, h3⟩ => ⟨rv, h1, h2, f.trans h3⟩
          have SQ1 : ∀ W rv, Fr [] w17 W → TIn W rv T → Calls Try.prog 32 #[rv, .agg #[.int .i64 T.st, .int .i64 T.ev, .int .i64 T.sr, .slice oa na ca]] W fun e w' => e = .returned (.bool true) ∧ Fr [] w17 w' := fun W rv f h => (rsame_fit T rv _ W h ⟨_, rfl, Ra.fr f⟩ hz.out).mono fun e w' ⟨h1, h2⟩ => ⟨h1, f.trans h2⟩
          have TQ2 : ∀ W, Fr [] w17 W → Calls Try.prog 18 #[.agg #[.int .i64 X.st, .int .i64 X.ev, .int .i64 X.sr, .slice oy nX cy]] W fun e w' => ∃ rv, e = .returned rv ∧ TIn w' rv X ∧ Fr [] w17 w' := fun W f => (to_any X _ W ⟨_, rfl, Ry.fr f⟩ hzX.out).mono fun e w' ⟨rv, h1, h2, h3⟩ => ⟨rv, h1, h2, f.trans h3⟩
          have SQ2 : ∀ W rv, Fr [] w17 W → TIn W rv X → Calls Try.prog 32 #[rv, .agg #[.int .i64 X.st, .int .i64 X.ev, .int .i64 X.sr, .slice ok nk ck]] W fun e w' => e = .returned (.bool true) ∧ Fr [] w17 w' := fun W rv f h => (rsame_fit X rv _ W h ⟨_, rfl, Rk.fr f⟩ hzX.out).mono fun e w' ⟨h1, h2⟩ => ⟨h1, f.trans h2⟩
          have TQ3 : ∀ W, Fr [] w17 W → Calls Try.prog 18 #[.agg #[.int .i64 L.st, .int .i64 L.ev, .int .i64 L.sr, .slice ol3 nL cl3]] W fun e w' => ∃ rv, e = .returned rv ∧ TIn w' rv L ∧ Fr [] w17 w' := fun W f => (to_any L _ W ⟨_, rfl, Rl.fr f⟩ hzL.out).mono fun e w' ⟨rv, h1, h2, h3⟩ => ⟨rv, h1, h2, f.trans h3⟩
          have SQ3 : ∀ W rv, Fr [] w17 W → TIn W rv L → Calls Try.prog 32 #[rv, .agg #[.int .i64 L.st, .int .i64 L.ev, .int .i64 L.sr, .slice ow nw cw]] W fun e w' => e = .returned (.bool true) ∧ Fr [] w17 w' := fun W rv f h => (rsame_fit L rv _ W h ⟨_, rfl, Rw.fr f⟩ hzL.out).mono fun e w' ⟨h1, h2⟩ => ⟨h1, f.trans h2⟩
          have NQ : ∀ W, Fr [] w17 W → Calls Try.prog 22 #[] W fun e w' => e = .returned (.bool true) ∧ Fr [] w17 w' := fun W f => (sane_any W).mono fun e w' ⟨h1, h2⟩ => ⟨h1, f.trans h2⟩
          clear k1
          replace hRl3 := Lib.hid hRl3; replace hRwl3 := Lib.hid hRwl3; replace hbol3 := Lib.hid hbol3; replace f16 := Lib.hid f16; replace p16 := Lib.hid p16; replace q12 := Lib.hid q12; replace f17 := Lib.hid f17; replace f10_17 := Lib.hid f10_17; replace f8_17 := Lib.hid f8_17; replace f3_17 := Lib.hid f3_17; replace F017 := Lib.hid F017; replace Q1 := Lib.hid Q1; replace Q2 := Lib.hid Q2; replace Q10 := Lib.hid Q10; replace Q7 := Lib.hid Q7; replace Q12 := Lib.hid Q12; replace Q14 := Lib.hid Q14; replace Ra := Lib.hid Ra; replace Ry := Lib.hid Ry; replace Rk := Lib.hid Rk; replace Rl := Lib.hid Rl; replace Rw := Lib.hid Rw; replace SS := Lib.hid SS; replace TQ1 := Lib.hid TQ1; replace SQ1 := Lib.hid SQ1; replace TQ2 := Lib.hid TQ2; replace SQ2 := Lib.hid SQ2; replace TQ3 := Lib.hid TQ3; replace SQ3 := Lib.hid SQ3; replace NQ := Lib.hid NQ; replace Sv := Lib.hid Sv
          go_wp2_with fail
          clear c16 z16 hw17
          obtain ⟨x0, x1, x2, x3, x4, x5, x6, x7, x8, x9, x10, x11, x12, x13, x14, x15, x16, x17, x18, x19, x20, x21, x22, x23⟩ := SS.out w17 (Fr.refl _ _)
          go_upto_region 19 with fail
          clear x0 x1 x2 x3 x4 x5 x6 x7 x8 x9 x10 x11 x12 x13 x14 x15 x16 x17 x18 x19 x20 x21 x22 x23
          go_region_held3 (fun W => W.cell? ⟨b1, 0, none⟩ = some (.int .i64 T.st) ∧ W.cell? ⟨b1, 1, none⟩ = some (.int .i64 T.ev) ∧ W.cell? ⟨b1, 2, none⟩ = some (.int .i64 T.sr) ∧ W.cell? ⟨b1, 3, none⟩ = some (r) ∧ W.cell? ⟨b2, 0, none⟩ = some (.int .i64 T.st) ∧ W.cell? ⟨b2, 1, none⟩ = some (.int .i64 T.ev) ∧ W.cell? ⟨b2, 2, none⟩ = some (.int .i64 T.sr) ∧ W.cell? ⟨b2, 3, none⟩ = some (.slice oa na ca) ∧ W.cell? ⟨b10, 0, none⟩ = some (.int .i64 X.st) ∧ W.cell? ⟨b10, 1, none⟩ = some (.int .i64 X.ev) ∧ W.cell? ⟨b10, 2, none⟩ = some (.int .i64 X.sr) ∧ W.cell? ⟨b10, 3, none⟩ = some (.slice oy nX cy) ∧ W.cell? ⟨b7, 0, none⟩ = some (.int .i64 X.st) ∧ W.cell? ⟨b7, 1, none⟩ = some (.int .i64 X.ev) ∧ W.cell? ⟨b7, 2, none⟩ = some (.int .i64 X.sr) ∧ W.cell? ⟨b7, 3, none⟩ = some (.slice ok nk ck) ∧ W.cell? ⟨b12, 0, none⟩ = some (.int .i64 L.st) ∧ W.cell? ⟨b12, 1, none⟩ = some (.int .i64 L.ev) ∧ W.cell? ⟨b12, 2, none⟩ = some (.int .i64 L.sr) ∧ W.cell? ⟨b12, 3, none⟩ = some (.slice ol3 nL cl3) ∧ W.cell? ⟨b14, 0, none⟩ = some (.int .i64 L.st) ∧ W.cell? ⟨b14, 1, none⟩ = some (.int .i64 L.ev) ∧ W.cell? ⟨b14, 2, none⟩ = some (.int .i64 L.sr) ∧ W.cell? ⟨b14, 3, none⟩ = some (.slice ow nw cw))
            (first | exact SS.out _ (Fr.refl _ _).drew | exact SS.out _ GP.out | exact SS.out _ GS3.out | exact SS.out _ GA3.out | exact SS.out _ GS2.out | exact SS.out _ GA2.out | exact SS.out _ GS1.out | exact SS.out _ GA1.out)
            ((first
              | (go_at_call 18; with_reducible refine Calls.mono (TQ1.out _ ?hfr) ?_; (case hfr => exact (Fr.refl _ _).drew); rintro e wA1 ⟨rv1, rfl, tA1, GA1⟩; replace tA1 := Lib.hid tA1; replace GA1 := Lib.hid GA1)
              | (go_at_call 32; with_reducible refine Calls.mono (SQ1.out wA1 rv1 GA1.out tA1.out) ?_; rintro e wS1 ⟨rfl, GS1⟩; replace GS1 := Lib.hid GS1)
              | (go_at_call 18; with_reducible refine Calls.mono (TQ2.out wS1 GS1.out) ?_; rintro e wA2 ⟨rv2, rfl, tA2, GA2⟩; replace tA2 := Lib.hid tA2; replace GA2 := Lib.hid GA2)
              | (go_at_call 32; with_reducible refine Calls.mono (SQ2.out wA2 rv2 GA2.out tA2.out) ?_; rintro e wS2 ⟨rfl, GS2⟩; replace GS2 := Lib.hid GS2)
              | (go_at_call 18; with_reducible refine Calls.mono (TQ3.out wS2 GS2.out) ?_; rintro e wA3 ⟨rv3, rfl, tA3, GA3⟩; replace tA3 := Lib.hid tA3; replace GA3 := Lib.hid GA3)
              | (go_at_call 32; with_reducible refine Calls.mono (SQ3.out wA3 rv3 GA3.out tA3.out) ?_; rintro e wS3 ⟨rfl, GS3⟩; replace GS3 := Lib.hid GS3)
              | (go_at_call 22; with_reducible refine Calls.mono (NQ.out wS3 GS3.out) ?_; rintro e wP ⟨rfl, GP⟩; replace GP := Lib.hid GP)))
          all_goals
            have FE := Lib.hid (F017.out.trans GP.out)
            go_wp2_with fail
            go_ret
            exact ⟨rfl, FE.out⟩
end Go.Proofs.Ytnggimkkjdipmaa
