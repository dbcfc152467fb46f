import Derived.Test.YtnggimkkjdipmaaTB13
import Derived.Carry
namespace Go.Proofs.Ytnggimkkjdipmaa
open Go.RowKit
set_option linter.unusedVariables false
set_option linter.unusedSimpArgs false
set_option maxHeartbeats 16000000
set_option maxRecDepth 100000
/-- A list of numbers that lies in blocks of some kind. -/
def NInB (q : Nat → Prop) (w : World) (v : Value) (l : List Int) : Prop := ∃ o cap, v = .slice o l.length cap ∧ ∀ i (h : i < l.length), ∃ b off, o = some ⟨b, off, none⟩ ∧ b < w.heap.size ∧ q b ∧ w.cell? ⟨b, off + i, none⟩ = some (.int .i64 l[i])
theorem NIn.old {w : World} {v : Value} {l : List Int} (h : NIn w v l) : NInB (fun b => b < w.heap.size) w v l := by
  obtain ⟨o, cap, h1, h2⟩ := h
  refine ⟨o, cap, h1, fun i hi => ?_⟩
  obtain ⟨b, off, e, hb, hc⟩ := h2 i hi
  exact ⟨b, off, e, hb, hb, hc⟩
theorem NInB.fr {q : Nat → Prop} {w w' : World} {v : Value} {l : List Int} (h : NInB q w v l) {ex : List Nat} (hf : Fr ex w w') (hx : ∀ b, q b → b ∉ ex) : NInB q w' v l := by
  obtain ⟨o, cap, h1, h2⟩ := h
  refine ⟨o, cap, h1, fun i hi => ?_⟩
  obtain ⟨b, off, e, hb, hq, hc⟩ := h2 i hi
  exact ⟨b, off, e, Nat.lt_of_lt_of_le hb hf.size, hq, by rw [hf.cell (p := ⟨b, off + i, none⟩) hb (hx b hq)]; exact hc⟩
/-- classes, in the midst of a round. -/
structure ClI (T : Tb) (w : World) (bt bn bm : Nat) (r cv : Value) (c : List Int) (i : Nat) (wr : World) : Prop where
  pt : Pt wr bt TTab [.int .i64 T.st, .int .i64 T.ev, .int .i64 T.sr, r]
  cls : NInB (fun b => b < bm) wr cv c
  nx : Pt wr bn 3 (ints (half (toI (numG [] (keysFrom c 0 (T.rows.take i))).1) T.rows.length))
  mp : MapK strK wr bm (enumF 0 (numG [] (keysFrom c 0 (T.rows.take i))).2)
  ne : bm < bn
  gt : bt < bm
  gn : w.heap.size ≤ bn
  gm : w.heap.size ≤ bm
  fr : Fr [] w wr
theorem ClI.frz {T : Tb} {w : World} {bt bn bm : Nat} {r cv : Value} {c : List Int} {i : Nat} {wr w' : World} (h : ClI T w bt bn bm r cv c i wr) (hf : Fr [] wr w') : ClI T w bt bn bm r cv c i w' :=
  ⟨hf.pt h.pt (by simp), h.cls.fr hf (by simp), hf.pt h.nx (by simp), h.mp.fr hf (by simp), h.ne, h.gt, h.gn, h.gm, h.fr.trans hf⟩
theorem toI_app (l : List Nat) (x : Nat) : toI (l ++ [x]) = toI l ++ [(x : Int)] := by simp [toI]
theorem ClI.next {T : Tb} {w : World} {bt bn bm : Nat} {r cv : Value} {c : List Int} {i : Nat} {wr w7 : World} (h : ClI T w bt bn bm r cv c i wr) (hi : i < T.rows.length) (K : List UInt8) (hK : K = keyB (keyL c (0 + i) T.rows[i])) (x : Int)
    (hx : x = (idxK (addK (numG [] (keysFrom c 0 (T.rows.take i))).2 K) K : Int)) (hm : MapK strK w7 bm (enumF 0 (addK (numG [] (keysFrom c 0 (T.rows.take i))).2 K))) (f7 : Fr [bm] wr w7) :
    ClI T w bt bn bm r cv c (i + 1) (w7.setCell ⟨bn, i, none⟩ (.int .i64 x)) := by
  have fs : Fr [bn] w7 (w7.setCell ⟨bn, i, none⟩ (.int .i64 x)) := (Fr.refl _ _).setCell (by simp) _
  have FA : Fr [bm, bn] wr (w7.setCell ⟨bn, i, none⟩ (.int .i64 x)) := (f7.mono (by simp)).trans (fs.mono (by simp))
  have hne := h.ne; have hgt := h.gt; have hgn := h.gn; have hgm := h.gm
  have hlt : (T.rows.take i).length = i := by rw [List.length_take]; omega
  have hkf : keysFrom c 0 (T.rows.take (i + 1)) = keysFrom c 0 (T.rows.take i) ++ [K] := by
    rw [List.take_succ_eq_append_getElem hi, keysFrom_snoc, hlt, hK]
  have hnl : (toI (numG [] (keysFrom c 0 (T.rows.take i))).1).length = i := by rw [toI, List.length_map, numG_len, keysFrom_len, hlt]
  refine ⟨FA.pt h.pt (by simp; omega), h.cls.fr FA (fun b hb hm => by simp at hm; omega), ?_, ?_, hne, hgt, hgn, hgm, h.fr.step FA (by simp; omega)⟩
  · rw [hkf, numG_snocK, toI_app, ← hx]
    have := (f7.pt h.nx (by simp; omega)).set i (.int .i64 x)
    rw [ints_set] at this
    have e := half_set (toI (numG [] (keysFrom c 0 (T.rows.take i))).1) T.rows.length (by omega) x
    rw [hnl] at e
    rw [e] at this
    exact this
  · rw [hkf, numG_snocK]
    exact hm.ne (by show bm ≠ bn; omega)
theorem rowKey_len (c : List Int) (r : Int × Int) : (rowKey c r).length = 2 := by unfold rowKey; split <;> rfl
theorem flat_len (c : List Int) (l : List (Int × Int)) : (l.flatMap (rowKey c)).length = 2 * l.length := by
  induction l with
  | nil => rfl
  | cons x l ih => simp only [List.flatMap_cons, List.length_append, rowKey_len, ih, List.length_cons]; omega
theorem flat_snoc (c : List Int) (l : List (Int × Int)) (j : Nat) (h : j < l.length) : (l.take (j + 1)).flatMap (rowKey c) = (l.take j).flatMap (rowKey c) ++ rowKey c l[j] := by
  rw [List.take_succ_eq_append_getElem h, List.flatMap_append]; simp
theorem classes_any (T : Tb) (v : Value) (w : World) (hT : TIn w v T) (hV : VT T) :
    Calls Try.prog 90 #[v] w fun e w' => ∃ v', e = .returned v' ∧ NIn w' v' (classes T) ∧ Fr [] w w' := by
  obtain ⟨r, rfl, hR⟩ := hT
  have hval : T.val r = .agg #[.int .i64 T.st, .int .i64 T.ev, .int .i64 T.sr, r] := rfl
  rw [hval]
  clear hval
  have hnt : T.st.toNat = T.rows.length := by have := hV.rows; omega
  have hst := hV.st; have hrl := hV.rows
  have hlen30 : T.rows.length ≤ 30 := by omega
  obtain ⟨o, cap, rfl, hl⟩ := hR
  obtain ⟨w0, hw0⟩ : ∃ x, w.alloc (.cells #[.int .i64 T.st, .int .i64 T.ev, .int .i64 T.sr, .slice o T.rows.length cap] TTab) = x := ⟨_, rfl⟩
  have P0 := Pt.newA w TTab #[.int .i64 T.st, .int .i64 T.ev, .int .i64 T.sr, .slice o T.rows.length cap]
  rw [hw0] at P0
  have F0 : Fr [] w w0 := by rw [← hw0]; exact (Fr.refl [] w).alloc _
  obtain ⟨bt, hbt⟩ : ∃ x, w.heap.size = x := ⟨_, rfl⟩
  rw [hbt] at P0
  obtain ⟨w1, hw1⟩ : ∃ x, w0.alloc (.cells (ints (List.replicate T.st.toNat 0)).toArray 3) = x := ⟨_, rfl⟩
  have P1 := Pt.newA w0 3 (ints (List.replicate T.st.toNat 0)).toArray
  have hmk0 := make_ints T.st w0 (by omega) (by omega)
  rw [hw1] at P1 hmk0
  rw [hnt] at hmk0
  have F1 : Fr [] w0 w1 := by rw [← hw1]; exact (Fr.refl [] w0).alloc _
  have k0 := P0.cell
  have N1 : NIn w1 (.slice (some ⟨w0.heap.size, 0, none⟩) T.rows.length T.rows.length) (class0 T) := P1.nin _ _ (by simp [class0, hnt])
  have PT1 := F1.pt P0 (by simp)
  have C0 := ClOk.start hV
  replace hl := Lib.hid hl; replace P0 := Lib.hid P0; replace P1 := Lib.hid P1; replace F0 := Lib.hid F0; replace F1 := Lib.hid F1; replace N1 := Lib.hid N1; replace PT1 := Lib.hid PT1; replace C0 := Lib.hid C0; replace hrl := Lib.hid hrl; replace hst := Lib.hid hst; replace hnt := Lib.hid hnt
  clear hw1
  go_enter Try.func90, Try.ntmps90
  go_wp2_with fail
  clear hmk0 k0 hw0
  go_loopg [3, 4] 31 (fun k v3 v4 wr => ∃ (c : List Int) (n f : Nat), v4 = .int .i64 n ∧ k + n = 32 ∧ NIn wr v3 c ∧ ClOk T c n ∧ 31 - n ≤ f ∧ classF T f c n = classes T ∧ Pt wr bt TTab [.int .i64 T.st, .int .i64 T.ev, .int .i64 T.sr, .slice o T.rows.length cap] ∧ Fr [] w wr)
  case atStart => exact ⟨class0 T, 1, 40, rfl, rfl, N1.out, C0.out, by omega, rfl, PT1.out, F0.out.trans F1.out⟩
  case round =>
    obtain ⟨c, n, f, rfl, hk, hcv, hC, hf, hcF, hpt, hF⟩ := hrel
    obtain ⟨wo, rfl⟩ : ∃ wo : World, wo = wr := ⟨_, rfl⟩
    obtain ⟨gq, rfl⟩ : ∃ g : Nat, g = gk := ⟨_, rfl⟩
    have hmm := run_makeMap (P := Try.prog) 143 wo
    obtain ⟨wm, hwm⟩ : ∃ x, wo.alloc (.map #[] 0) = x := ⟨_, rfl⟩
    have Mm := MapK.made strK wo
    rw [hwm] at hmm Mm
    have Fm : Fr [] wo wm := by rw [← hwm]; exact (Fr.refl [] wo).alloc _
    obtain ⟨bm, hbm⟩ : ∃ x, wo.heap.size = x := ⟨_, rfl⟩
    rw [hbm] at hmm Mm
    have hmk := make_ints T.st wm (by have := hst.out; omega) (by have := hst.out; omega)
    obtain ⟨wn, hwn⟩ : ∃ x, wm.alloc (.cells (ints (List.replicate T.st.toNat 0)).toArray 3) = x := ⟨_, rfl⟩
    have Pn := Pt.newA wm 3 (ints (List.replicate T.st.toNat 0)).toArray
    rw [hwn] at hmk Pn
    rw [hnt.out] at hmk
    have Fn : Fr [] wm wn := by rw [← hwn]; exact (Fr.refl [] wm).alloc _
    obtain ⟨bn, hbn⟩ : ∃ x, wm.heap.size = x := ⟨_, rfl⟩
    rw [hbn] at hmk Pn
    have lm := Mm.lt
    have I0 : ClI T w bt bn bm (.slice o T.rows.length cap) u3 c 0 wn := by
      refine ⟨Fn.pt (Fm.pt hpt (by simp)) (by simp), by rw [← hbm]; exact (hcv.old.fr Fm (by simp)).fr Fn (by simp), ?_, ?_, by omega, by have := hpt.lt; omega, by have := hF.size; have := Fm.size; omega, by have := hF.size; omega, (hF.trans Fm).trans Fn⟩
      · have : half (toI (numG [] (keysFrom c 0 (T.rows.take 0))).1) T.rows.length = List.replicate T.st.toNat 0 := by
          simp [keysFrom, numG, toI, half]; have := hrl.out; omega
        rw [this]; exact Pn
      · exact Mm.fr Fn (by simp)
    have km := (Fm.pt hpt (by simp)).cell
    have kn := I0.pt.cell
    have k9 := hpt.cell
    replace I0 := Lib.hid I0; replace hcv := Lib.hid hcv; replace hC := Lib.hid hC; replace hcF := Lib.hid hcF; replace hpt := Lib.hid hpt; replace hF := Lib.hid hF; replace Mm := Lib.hid Mm; replace Pn := Lib.hid Pn; replace Fm := Lib.hid Fm; replace Fn := Lib.hid Fn
    clear hwm hwn
    go_wp2_with fail
    clear km kn k9 hmm hmk
    go_loopg [25] (T.rows.length + 1) (fun k v25 wr => ∃ i : Nat, i ≤ T.rows.length ∧ k + i = T.rows.length + 1 ∧ v25 = .int .i64 i ∧ ClI T w bt bn bm (.slice o T.rows.length cap) u3 c i wr)
    case atStart => exact ⟨0, by omega, by omega, rfl, I0.out⟩
    case round =>
      obtain ⟨i, hi, hk2, rfl, hI⟩ := hrel
      have kt := hI.pt.cell
      replace hI := Lib.hid hI
      obtain ⟨w2, rfl⟩ : ∃ x : World, x = wr := ⟨_, rfl⟩
      obtain ⟨g2, rfl⟩ : ∃ g : Nat, g = gk := ⟨_, rfl⟩
      by_cases hlt : i < T.rows.length
      · have hltI : (i : Int) < T.rows.length := by omega
        obtain ⟨B, off, u, rfl, hB, hcB, o2, cap2, rfl, hu⟩ := hl.out i hlt
        have cB := hI.out.fr.cell (p := ⟨B, off + i, none⟩) hB (by simp)
        rw [hcB] at cB
        obtain ⟨row, hrow⟩ : ∃ row, T.rows[i] = row := ⟨_, rfl⟩
        have hrl2 := hV.row _ (List.getElem_mem hlt)
        have hcells := hV.cell _ (List.getElem_mem hlt)
        rw [hrow] at hu hrl2 hcells cB
        have hev := hV.ev
        have hrow12 : row.length ≤ 12 := by omega
        have hic : i < c.length := by have := hC.out.len; omega
        have hcl := hC.out.len
        have hcr := hC.out.rng
        have hnle := hC.out.le
        obtain ⟨oc, capc, nc, hu3, hnc, hcc⟩ : ∃ oc capc nc, u3 = .slice oc nc capc ∧ nc = c.length ∧ ∀ i (h : i < c.length), ∃ b off, oc = some ⟨b, off, none⟩ ∧ b < w2.heap.size ∧ b < bm ∧ w2.cell? ⟨b, off + i, none⟩ = some (.int .i64 c[i]) := by
          obtain ⟨oc, capc, h1, h2⟩ := hI.out.cls
          exact ⟨oc, capc, _, h1, rfl, h2⟩
        subst hu3
        replace hnc := Lib.hid hnc
        obtain ⟨bc, offc, rfl, hbc, hbcm, hci⟩ := hcc i hic
        obtain ⟨ci, hcie⟩ : ∃ x, c[i] = x := ⟨_, rfl⟩
        rw [hcie] at hci
        have hcir := hcr ci (by rw [← hcie]; exact List.getElem_mem _)
        have hgi : gI c ((0 + i : Nat) : Int) = ci := by
          unfold gI
          rw [List.getD_eq_getElem?_getD, show ((0 + i : Nat) : Int).toNat = i by omega, List.getElem?_eq_getElem hic, hcie]; rfl
        have q0 : IntKind.i32.wrap ci = ci := by rw [IntKind.wrap_i32]; omega
        have ilc : (i : Int) < (nc : Int) := by have := hnc.out; omega
        obtain ⟨w3, hw3⟩ : ∃ x, w2.alloc (.cells #[.int .i32 ci] 21) = x := ⟨_, rfl⟩
        have P3 := Pt.newA w2 21 #[.int .i32 ci]
        rw [hw3] at P3
        have F3 : Fr [] w2 w3 := by rw [← hw3]; exact (Fr.refl [] w2).alloc _
        have RK : Row 1 w3 (.slice (some ⟨w2.heap.size, 0, none⟩) 1 1) [ci].length (runes [ci]) (some w2.heap.size) := by
          refine .inr ⟨_, 0, 1, rfl, rfl, by simp, P3.lt, by simp [runes], fun j hj => ?_, fun j hj => ?_⟩
          · obtain rfl : j = 0 := by omega
            exact ⟨by rw [P3.cell]; rfl, P3.free 0⟩
          · obtain rfl : j = 0 := by simp at hj; omega
            rw [P3.cell]; rfl
        replace hu := Lib.hid hu; replace hrl2 := Lib.hid hrl2; replace hcells := Lib.hid hcells; replace hcl := Lib.hid hcl; replace hcr := Lib.hid hcr; replace hcie := Lib.hid hcie; replace hgi := Lib.hid hgi; replace P3 := Lib.hid P3; replace F3 := Lib.hid F3; replace RK := Lib.hid RK; replace hrow := Lib.hid hrow; replace hcc := Lib.hid hcc; replace hcB := Lib.hid hcB; replace hev := Lib.hid hev
        go_wp2_with fail
        clear kt cB hci
        go_loopg [9, 38] (row.length + 1) (fun k v9 v38 wr => ∃ (j : Nat) (bo : Option Nat), j ≤ row.length ∧ k + j = row.length + 1 ∧ v38 = .int .i64 j ∧ Row 1 wr v9 (ci :: (row.take j).flatMap (rowKey c)).length (runes (ci :: (row.take j).flatMap (rowKey c))) bo ∧ (∀ z, bo = some z → w2.heap.size ≤ z) ∧ Fr [] w2 wr)
        case atStart => exact ⟨0, _, by omega, by omega, rfl, RK.out, by simp, F3.out⟩
        case round =>
          obtain ⟨j, bo, hj, hk3, rfl, hrw, hbo, hFi⟩ := hrel
          by_cases hltj : j < row.length
          · have hltJ : (j : Int) < row.length := by omega
            obtain ⟨B2, off2, rfl, hB2, ha, hb⟩ := hu.out j hltj
            have hrl12 := hrl2.out
            have hev2 := hev.out
            have hce := hcells.out _ (List.getElem_mem hltj)
            have hsn := flat_snoc c row j hltj
            obtain ⟨⟨x1, x2⟩, hx⟩ : ∃ x, row[j] = x := ⟨_, rfl⟩
            rw [hx] at ha hb hce hsn
            dsimp only at ha hb hce
            have FF := hI.out.fr.trans hFi
            have ca := FF.cell (p := ⟨B2, off2 + j * 2, none⟩) hB2 (by simp)
            rw [ha] at ca
            have cb := FF.cell (p := ⟨B2, off2 + j * 2 + 1, none⟩) hB2 (by simp)
            rw [hb] at cb
            have hkl := flat_len c (row.take j)
            rw [List.length_take] at hkl
            obtain ⟨w4, hw4⟩ : ∃ x, wr.alloc (.cells #[.int .i64 x1, .int .i64 x2] TRow) = x := ⟨_, rfl⟩
            have P4 := Pt.newA wr TRow #[.int .i64 x1, .int .i64 x2]
            rw [hw4] at P4
            have F4 : Fr [] wr w4 := by rw [← hw4]; exact (Fr.refl [] wr).alloc _
            obtain ⟨bx, hbx⟩ : ∃ x, wr.heap.size = x := ⟨_, rfl⟩
            rw [hbx] at P4
            have k4 := P4.cell
            obtain ⟨hc1, hc2, hc3, hc4, hc5⟩ := hce
            clear ha hb
            by_cases hneg : x1 < 0
            · have hrk : rowKey c (x1, x2) = [-1, 0] := if_pos hneg
              rw [hrk] at hsn
              obtain ⟨v', w5, bo', happ, hrw5, hbo5, f5⟩ := (hrw.fr F4 (by simp)).twoR (by simp only [List.length_cons, hkl]; omega) (-1) 0
              rw [List.cons_append, ← hsn] at hrw5
              have hbo5' : ∀ z, bo' = some z → w2.heap.size ≤ z := fun z hz => by
                rcases hbo5 with h | ⟨z', h, h2⟩
                · exact hbo z (by rw [← h]; exact hz)
                · rw [hz] at h; cases h
                  have := hFi.size; have := F4.size; omega
              have F5 : Fr [] w2 w5 := (hFi.trans F4).step f5 (fun z hz => .inr (hbo z (by simpa using hz)))
              replace happ := Lib.hid happ; replace hrw5 := Lib.hid hrw5; replace hbo5 := Lib.hid hbo5; replace hbo5' := Lib.hid hbo5'; replace F5 := Lib.hid F5; replace f5 := Lib.hid f5; replace hsn := Lib.hid hsn; replace hrw := Lib.hid hrw; replace hbo := Lib.hid hbo; replace hFi := Lib.hid hFi; replace hx := Lib.hid hx; replace hkl := Lib.hid hkl; replace FF := Lib.hid FF; replace F4 := Lib.hid F4; replace P4 := Lib.hid P4; replace hrk := Lib.hid hrk; replace hc5 := Lib.hid hc5; replace hrl12 := Lib.hid hrl12
              go_wp2_with (first | (at_builtin; refine wpList_append_run _ rfl _ _ _ rfl rfl rfl happ.out ?_))
              go_roundg (gk - 1)
              case measure => omega
              case rel => exact ⟨j + 1, bo', by omega, by omega, by go_num, hrw5.out, hbo5'.out, F5.out⟩
            · obtain ⟨k', rfl⟩ : ∃ k' : Nat, x1 = k' := ⟨x1.toNat, by omega⟩
              have hkc : k' < c.length := by have := hcl.out; have := hnt.out; omega
              obtain ⟨b', off', e', hb', _, hcell⟩ := hcc.out k' hkc
              cases e'
              obtain ⟨cl, hcle⟩ : ∃ x, c[k'] = x := ⟨_, rfl⟩
              rw [hcle] at hcell
              have hclr := hcr.out cl (by rw [← hcle]; exact List.getElem_mem _)
              have hg2 : gI c (k' : Int) = cl := by
                unfold gI
                rw [List.getD_eq_getElem?_getD, show ((k' : Nat) : Int).toNat = k' by omega, List.getElem?_eq_getElem hkc, hcle]; rfl
              have hrk : rowKey c ((k' : Int), x2) = [x2, cl] := by unfold rowKey; rw [if_neg hneg, hg2]
              rw [hrk] at hsn
              have q1 : IntKind.i32.wrap x2 = x2 := by rw [IntKind.wrap_i32]; omega
              have q2 : IntKind.i32.wrap cl = cl := by rw [IntKind.wrap_i32]; omega
              have cc4 := (hFi.trans F4).cell (p := ⟨bc, offc + k', none⟩) hbc (by simp)
              rw [hcell] at cc4
              have hkcI : (k' : Int) < (nc : Int) := by have := hnc.out; omega
              obtain ⟨v', w5, bo', happ, hrw5, hbo5, f5⟩ := ((hrw.fr F4 (by simp)).fr ((Fr.refl [] w4).drew) (by simp)).twoR (by simp only [List.length_cons, hkl]; omega) x2 cl
              rw [List.cons_append, ← hsn] at hrw5
              have hbo5' : ∀ z, bo' = some z → w2.heap.size ≤ z := fun z hz => by
                rcases hbo5 with h | ⟨z', h, h2⟩
                · exact hbo z (by rw [← h]; exact hz)
                · rw [hz] at h; cases h
                  have := hFi.size; have := F4.size
                  have h3 : w4.heap.size ≤ z := h2
                  omega
              have F5 : Fr [] w2 w5 := ((hFi.trans F4).drew).step f5 (fun z hz => .inr (hbo z (by simpa using hz)))
              have hbw2 : ∀ z ∈ bo.toList, z < bx := fun z hz => by
                have hz' : bo = some z := by simpa using hz
                have h3 := hrw
                rw [hz'] at h3
                have := h3.lt; omega
              have KW : Hid (w5.cell? ⟨bx, 0, none⟩ = some (.int .i64 (k' : Int)) ∧ w5.cell? ⟨bx, 1, none⟩ = some (.int .i64 x2) ∧ w5.cell? ⟨bc, offc + k', none⟩ = some (.int .i64 cl)) := by
                have P5 := f5.pt P4.drew (fun hm => by have := hbw2 bx hm; omega)
                refine ⟨P5.cell 0, P5.cell 1, ?_⟩
                rw [F5.cell (p := ⟨bc, offc + k', none⟩) hbc (by simp)]; exact hcell
              obtain ⟨wb, hwb⟩ : ∃ n, w4.heap.size = n := ⟨_, rfl⟩
              rw [show w4.drew.heap.size = wb from hwb, show w4.drew.alloc (.cells #[.int .i32 x2, .int .i32 cl] 21) = (w4.alloc (.cells #[.int .i32 x2, .int .i32 cl] 21)).drew from rfl] at happ
              obtain ⟨ok, ck, rfl⟩ := hrw.len
              obtain ⟨nk, hnk⟩ : ∃ n, (ci :: (row.take j).flatMap (rowKey c)).length = n := ⟨_, rfl⟩
              rw [hnk] at happ
              have hnk' := Lib.hid hnk
              replace happ := Lib.hid happ; replace hrw5 := Lib.hid hrw5; replace hbo5 := Lib.hid hbo5; replace hbo5' := Lib.hid hbo5'; replace F5 := Lib.hid F5; replace f5 := Lib.hid f5; replace hsn := Lib.hid hsn; replace hrw := Lib.hid hrw; replace hbo := Lib.hid hbo; replace hFi := Lib.hid hFi; replace hx := Lib.hid hx; replace hkl := Lib.hid hkl; replace FF := Lib.hid FF; replace F4 := Lib.hid F4; replace P4 := Lib.hid P4; replace hrk := Lib.hid hrk; replace hc5 := Lib.hid hc5; replace hrl12 := Lib.hid hrl12; replace hg2 := Lib.hid hg2; replace hcle := Lib.hid hcle; replace hcell := Lib.hid hcell; replace hbw2 := Lib.hid hbw2
              go_upto_region 14 with fail
              clear ca cb
              go_region_held3 (fun w' => w'.cell? ⟨bx, 0, none⟩ = some (.int .i64 (k' : Int)) ∧ w'.cell? ⟨bx, 1, none⟩ = some (.int .i64 x2) ∧ w'.cell? ⟨bc, offc + k', none⟩ = some (.int .i64 cl))
                (first | go_keep | exact KW.out)
                ((first
                  | (refine step_append_run rfl _ _ _ rfl (v := .slice ok nk ck) rfl (xv := .slice (some ⟨wb, 0, none⟩) 2 2) rfl happ.out ?_)))
              go_wp2_with fail
              go_roundg (gk - 1)
              case measure => omega
              case rel => exact ⟨j + 1, bo', by omega, by omega, by go_num, hrw5.out, hbo5'.out, F5.out⟩
          · have hltJ : ¬ (j : Int) < row.length := by omega
            rw [List.take_of_length_le (by omega)] at hrw
            have hKl : (ci :: row.flatMap (rowKey c)) = keyL c (0 + i) row := by unfold keyL; rw [hgi.out]
            have hKlen : (ci :: row.flatMap (rowKey c)).length ≤ 100 := by simp only [List.length_cons, flat_len]; omega
            have hKr : ∀ n ∈ ci :: row.flatMap (rowKey c), -1 ≤ n ∧ n ≤ 999 := fun n' hn => by
              rcases List.mem_cons.mp hn with e | e
              · rw [e]; omega
              · obtain ⟨x, hx, hx2⟩ := List.mem_flatMap.mp e
                have hx3 := hcells.out x hx
                unfold rowKey at hx2
                split at hx2
                · simp at hx2; omega
                · rename_i hneg
                  have hkc : x.1.toNat < c.length := by have := hcl.out; have := hnt.out; omega
                  have hg2 : gI c x.1 = c[x.1.toNat] := by
                    unfold gI
                    rw [List.getD_eq_getElem?_getD, List.getElem?_eq_getElem hkc]; rfl
                  have := hcr.out _ (List.getElem_mem hkc)
                  simp only [List.mem_cons, List.not_mem_nil, or_false] at hx2
                  rw [hg2] at hx2
                  omega
            have KY := Lib.hid (keyed_any u9 _ wr hrw.uin hKr hKlen)
            obtain ⟨KL, hKL⟩ : ∃ x, ci :: row.flatMap (rowKey c) = x := ⟨_, rfl⟩
            rw [hKL] at KY hKl
            have I6 := hI.out.frz hFi
            replace hrw := Lib.hid hrw; replace hKr := Lib.hid hKr; replace hKlen := Lib.hid hKlen; replace hbo := Lib.hid hbo; replace hFi := Lib.hid hFi; replace hKL := Lib.hid hKL; replace hKl := Lib.hid hKl; replace I6 := Lib.hid I6
            go_wp2_with fail
            refine KY.out.mono ?_
            rintro e w6 ⟨rfl, f6⟩
            have I7 := I6.out.frz f6
            obtain ⟨known, hknown⟩ : ∃ x, (numG [] (keysFrom c 0 (T.rows.take i))).2 = x := ⟨_, rfl⟩
            have M7 := I7.mp
            rw [hknown] at M7
            have LO := fun z => M7.lookOk (P := Try.prog) (t := 143) uMapS uString isKey_str' strK_inj (zInt_run _) z
            have LK := fun z => M7.look (P := Try.prog) (t := 143) uMapS uString isKey_str' strK_inj (zInt_run _) z
            have PN := I7.nx
            have cn := PN.cell
            have zn := PN.free
            obtain ⟨kb, hkb⟩ : ∃ x : ByteArray, ⟨(keyB KL).toArray⟩ = x := ⟨_, rfl⟩
            have LO1 := LO (keyB KL)
            have LK1 := LK (keyB KL)
            have hsK : strK (keyB KL) = .string kb := by unfold strK; rw [hkb]
            rw [hsK] at LO1 LK1
            rw [hkb]
            have hLn : (ints (half (toI (numG [] (keysFrom c 0 (T.rows.take i))).1) T.rows.length)).length = T.rows.length := by
              rw [ints_len, half_len]
              rw [toI, List.length_map, numG_len, keysFrom_len, List.length_take]; omega
            obtain ⟨y, hy⟩ : ∃ y, w6.cell? ⟨bn, i, none⟩ = some y := ⟨_, by rw [cn i, List.getElem?_eq_getElem (by rw [hLn]; exact hlt)]⟩
            have hiI : (i : Int) < (T.rows.length : Int) := by omega
            have hKe : keyB KL = keyB (keyL c (0 + i) T.rows[i]) := by rw [hKl.out, hrow.out]
            clear cn LO LK
            rw [enumF_get] at LO1 LK1
            by_cases hm : keyB KL ∈ known
            · have hadd : addK known (keyB KL) = known := if_pos hm
              rw [if_pos hm] at LO1 LK1
              simp only [Option.getD_some, Option.isSome_some, Nat.zero_add] at LO1 LK1
              have NX := I7.next hlt (keyB KL) hKe (idxK known (keyB KL) : Int) (by rw [hknown, hadd]) (by rw [hknown, hadd]; exact M7) (Fr.refl _ _)
              obtain ⟨xi, hxi⟩ : ∃ x, idxK known (keyB KL) = x := ⟨_, rfl⟩
              rw [hxi] at LO1 LK1 NX
              replace NX := Lib.hid NX; replace M7 := Lib.hid M7; replace I7 := Lib.hid I7; replace PN := Lib.hid PN; replace hkb := Lib.hid hkb; replace hsK := Lib.hid hsK; replace hLn := Lib.hid hLn; replace hKe := Lib.hid hKe; replace hadd := Lib.hid hadd; replace hxi := Lib.hid hxi; replace hknown := Lib.hid hknown; replace hm := Lib.hid hm; replace f6 := Lib.hid f6
              go_wp2_with fail
              go_roundg (g2 - 1)
              case measure => omega
              case rel => exact ⟨i + 1, by omega, by omega, by go_num, NX.out⟩
            · have hadd : addK known (keyB KL) = known ++ [keyB KL] := if_neg hm
              rw [if_neg hm] at LO1
              simp only [Option.getD_none, Option.isSome_none] at LO1
              clear LK1
              have LN := M7.len (P := Try.prog) (t := 143) (by kernel_rfl) 3
              rw [enumF_len] at LN
              obtain ⟨w7, UP, M8, f7⟩ := M7.update (P := Try.prog) (t := 143) uMapS uString isKey_str' strK_inj (keyB KL) (.int .i64 (known.length : Int))
              have hks := enumF_set known 0 (keyB KL) hm
              rw [Nat.zero_add] at hks
              rw [hks] at M8
              rw [hsK] at UP
              have LK2 := M8.look (P := Try.prog) (t := 143) uMapS uString isKey_str' strK_inj (zInt_run _) (keyB KL)
              rw [enumF_get, if_pos (by simp), hsK, idxK_new _ _ hm] at LK2
              simp only [Option.getD_some, Nat.zero_add] at LK2
              have NX := I7.next hlt (keyB KL) hKe (known.length : Int) (by rw [hknown, hadd, idxK_new _ _ hm]) (by rw [hknown, hadd]; exact M8) f7
              have PN7 := f7.pt PN (by have := I7.ne; simp; omega)
              have zn7 := PN7.free
              have hy7 : w7.cell? ⟨bn, i, none⟩ = some y := by
                rw [f7.cell (p := ⟨bn, i, none⟩) PN.lt (by have := I7.ne; simp; omega)]; exact hy
              obtain ⟨xi, hxi⟩ : ∃ x, known.length = x := ⟨_, rfl⟩
              rw [hxi] at LN UP LK2 NX
              replace NX := Lib.hid NX; replace M7 := Lib.hid M7; replace I7 := Lib.hid I7; replace PN := Lib.hid PN; replace hkb := Lib.hid hkb; replace hsK := Lib.hid hsK; replace hLn := Lib.hid hLn; replace hKe := Lib.hid hKe; replace hadd := Lib.hid hadd; replace hxi := Lib.hid hxi; replace hknown := Lib.hid hknown; replace hm := Lib.hid hm; replace f6 := Lib.hid f6; replace f7 := Lib.hid f7; replace M8 := Lib.hid M8; replace hks := Lib.hid hks; replace PN7 := Lib.hid PN7
              go_wp2_with fail
              go_roundg (g2 - 1)
              case measure => omega
              case rel => exact ⟨i + 1, by omega, by omega, by go_num, NX.out⟩
      · have hltI : ¬ (i : Int) < T.rows.length := by omega
        have hie : i = T.rows.length := by omega
        have hI2 := hI.out
        rw [hie] at hI2
        have hnx := hI2.nx
        have hmp := hI2.mp
        rw [List.take_length] at hnx hmp
        have hnl : (toI (numG [] (keysFrom c 0 T.rows)).1).length = T.rows.length := by rw [toI, List.length_map, numG_len, keysFrom_len]
        have hhalf : half (toI (numG [] (keysFrom c 0 T.rows)).1) T.rows.length = (roundC T c).1 := by
          rw [← hnl, half_all]; rfl
        rw [hhalf] at hnx
        have LN := hmp.len (P := Try.prog) (t := 143) (by kernel_rfl) 3
        rw [enumF_len, show (numG [] (keysFrom c 0 T.rows)).2.length = (roundC T c).2 from rfl] at LN
        obtain ⟨hC', hle⟩ := hC.out.round hlen30
        have hnle := hC.out.le
        obtain ⟨f', rfl⟩ : ∃ f', f = f' + 1 := ⟨f - 1, by omega⟩
        have hcF' := hcF.out
        unfold classF at hcF'
        have hlen' := hC'.len
        have hN := hnx.nin T.rows.length T.rows.length hlen'.symm
        obtain ⟨N, hNe⟩ : ∃ N, (roundC T c).2 = N := ⟨_, rfl⟩
        obtain ⟨c', hce⟩ : ∃ c', (roundC T c).1 = c' := ⟨_, rfl⟩
        rw [hNe] at LN hC' hle hcF'
        rw [hce] at hN hC' hcF'
        have hle' := hC'.le
        have hfr := hI.out.fr
        have hpt' := hI.out.pt
        clear hI2 hnx hmp hnl hhalf hie hlen'
        by_cases hNn : N = n
        · rw [if_pos hNn] at hcF'
          subst hNn
          rw [hcF'] at hN
          have q : (((N : Nat) : Int) == ((N : Nat) : Int)) = true := by simp
          replace hN := Lib.hid hN; replace hC' := Lib.hid hC'; replace hcF' := Lib.hid hcF'; replace hNe := Lib.hid hNe; replace hce := Lib.hid hce; replace hfr := Lib.hid hfr; replace hpt' := Lib.hid hpt'
          go_wp2_with fail
          go_ret
          exact ⟨_, rfl, hN.out, hfr.out⟩
        · rw [if_neg hNn] at hcF'
          have q : (((N : Nat) : Int) == ((n : Nat) : Int)) = false := by simp; omega
          replace hN := Lib.hid hN; replace hC' := Lib.hid hC'; replace hcF' := Lib.hid hcF'; replace hNe := Lib.hid hNe; replace hce := Lib.hid hce; replace hfr := Lib.hid hfr; replace hpt' := Lib.hid hpt'
          go_wp2_with fail
          go_roundg (32 - N)
          case measure => omega
          case rel => exact ⟨c', N, f', rfl, by omega, hN.out, hC'.out, by omega, hcF'.out, hpt'.out, hfr.out⟩
end Go.Proofs.Ytnggimkkjdipmaa
