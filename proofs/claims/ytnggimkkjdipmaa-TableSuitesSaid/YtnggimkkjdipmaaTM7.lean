import Derived.Test.YtnggimkkjdipmaaTM6
namespace Go.Proofs.Ytnggimkkjdipmaa
open Go.RowKit
set_option linter.unusedVariables false
set_option linter.unusedSimpArgs false
set_option maxHeartbeats 16000000
set_option maxRecDepth 100000
theorem copyR_run (o : Option Addr) (cap : Nat) (ds : List (Int × Int)) (w : World) (hD : PIn w (.slice o ds.length cap) ds) (h0 : 0 < ds.length) (hn : ds.length < 1000000) :
    ∃ v' w' bo, (Builtin.append_ #[89, 89] 89 #[.slice (some ⟨w.heap.size, 0, none⟩) 0 0, .slice o ds.length cap]).run Try.prog (w.alloc (.cells #[] RRow)) = .ok v' w' ∧
      Row 2 w' v' ds.length (pcells ds) bo ∧ (∀ z, bo = some z → w.heap.size ≤ z) ∧ Fr [] w w' := by
  obtain ⟨o', cap', hv, hl⟩ := hD
  cases hv
  have f1 : Fr [] w (w.alloc (.cells #[] RRow)) := (Fr.refl [] w).alloc _
  obtain ⟨b, off, e0, hb, _⟩ := hl 0 h0
  cases e0
  have hc : ∀ i (h : i < ds.length), w.cell? ⟨b, off + i * 2, none⟩ = some (.int .i64 ds[i].1) ∧ w.cell? ⟨b, off + i * 2 + 1, none⟩ = some (.int .i64 ds[i].2) := fun i h => by
    obtain ⟨b', off', e, _, hc⟩ := hl i h
    cases e
    exact hc
  have hsrc : Src Try.prog 2 89 (.slice (some ⟨b, off, none⟩) ds.length cap) ds.length (pcells ds) (w.alloc (.cells #[] RRow)) := Src.ofSlice _ uRRows ⟨b, off, none⟩ ds.length cap _ (pcells_len ds) (fun j u hu => by
      have hj : j < ds.length * 2 := by have := (List.getElem?_eq_some_iff.1 hu).1; rwa [pcells_len] at this
      rw [Addr.add_lit, f1.cell (p := ⟨b, off + j, none⟩) hb (by simp)]
      have hg := pcells_get ds (j / 2) (by omega)
      have hcj := hc (j / 2) (by omega)
      rcases Nat.mod_two_eq_zero_or_one j with e | e
      · have ej : j = j / 2 * 2 := by omega
        rw [ej] at hu ⊢
        rw [hcj.1, ← hu, hg.1]
      · have ej : j = j / 2 * 2 + 1 := by omega
        rw [ej] at hu ⊢
        rw [← Nat.add_assoc, hcj.2, ← hu, hg.2]) (by
      intro u hu
      simp only [pcells, List.mem_flatMap] at hu
      obtain ⟨a, _, hm⟩ := hu
      simp at hm
      rcases hm with rfl | rfl <;> rfl)
  obtain ⟨v', w', bo', hrun, hr, hb', hf⟩ := (Row.nil 2 (w.alloc (.cells #[] RRow)) (some ⟨w.heap.size, 0, none⟩)).append (t := 89) (ty := 89) (e := RRow) (i := iRRow) (z := zRRow) uRRows infoRRow (by kernel_rfl) (by kernel_rfl) (by omega) (by kernel_rfl) (of_decide_eq_true (by kernel_rfl)) (by omega) hsrc (by omega) h0
  refine ⟨v', w', bo', hrun, by simpa using hr, fun z hz => ?_, f1.trans (by simpa using hf)⟩
  rcases hb' with h | h
  · rw [h] at hz; cases hz
  · rw [h] at hz; cases hz; exact f1.size
/-- What changed hands back. -/
def ChgR (X : Tb) (w : World) (e : Ending) (w' : World) : Prop := ∃ rv us bo bs, e = .returned (.agg #[.int .i64 X.st, .int .i64 X.ev, .int .i64 X.sr, rv]) ∧ ORows (fun b => w.heap.size ≤ b) w' rv X.rows us bo bs ∧ Fr [] w w'
theorem changed_any (T : Tb) (r : Value) (x : Mut) (hx : MutOk T x) (w : World) (hR : RIn w r T.rows) (hV : VT T) :
    Calls Try.prog 93 #[.agg #[.int .i64 T.st, .int .i64 T.ev, .int .i64 T.sr, r], .int .i64 x.1, .int .i64 x.2.1, .agg #[.int .i64 x.2.2.1, .int .i64 x.2.2.2]] w (ChgR (T.chg x) w) := by
  obtain ⟨o1, o2, o3, o4, o5, o6, o7, o8⟩ := hx
  obtain ⟨s, hs⟩ : ∃ s : Nat, x.1 = (s : Int) := ⟨x.1.toNat, by omega⟩
  obtain ⟨e, he⟩ : ∃ e : Nat, x.2.1 = (e : Int) := ⟨x.2.1.toNat, by omega⟩
  have hrl := hV.rows
  have hst := hV.st
  have hev := hV.ev
  have hsR : s < T.rows.length := by omega
  have hsRI : (s : Int) < T.rows.length := by omega
  have hrow := hV.row _ (List.getElem_mem hsR)
  have heR : e < T.rows[s].length := by omega
  have heRI : (e : Int) < T.rows[s].length := by omega
  have hch := chg_rows s e hs he hsR
  obtain ⟨⟨y1, y2⟩, hy⟩ : ∃ y, x.2.2 = y := ⟨_, rfl⟩
  rw [hy] at hch
  rw [hs, he, hy]
  dsimp only
  have hl30 : T.rows.length ≤ 30 := by omega
  obtain ⟨oA, capA, rfl, hlR⟩ := hR
  obtain ⟨w1, hw1⟩ : ∃ x, w.alloc (.cells #[.int .i64 T.st, .int .i64 T.ev, .int .i64 T.sr, .slice oA T.rows.length capA] RTab) = x := ⟨_, rfl⟩
  have P1 := Pt.newA w RTab #[.int .i64 T.st, .int .i64 T.ev, .int .i64 T.sr, .slice oA T.rows.length capA]
  rw [hw1] at P1
  have F1 : Fr [] w w1 := by rw [← hw1]; exact (Fr.refl [] w).alloc _
  obtain ⟨b1, hb1⟩ : ∃ x, w.heap.size = x := ⟨_, rfl⟩
  rw [hb1] at P1
  obtain ⟨w2, hw2⟩ : ∃ x, w1.alloc (.cells #[.int .i64 y1, .int .i64 y2] RRow) = x := ⟨_, rfl⟩
  have P2 := Pt.newA w1 RRow #[.int .i64 y1, .int .i64 y2]
  rw [hw2] at P2
  have F2 : Fr [] w1 w2 := by rw [← hw2]; exact (Fr.refl [] w1).alloc _
  obtain ⟨b2, hb2⟩ : ∃ x, w1.heap.size = x := ⟨_, rfl⟩
  rw [hb2] at P2
  obtain ⟨w3, hw3⟩ : ∃ x, w2.alloc (.cells #[.int .i64 0, .int .i64 0, .int .i64 0, .slice none 0 0] RTab) = x := ⟨_, rfl⟩
  have P3 := Pt.newA w2 RTab #[.int .i64 0, .int .i64 0, .int .i64 0, .slice none 0 0]
  rw [hw3] at P3
  have F3 : Fr [] w2 w3 := by rw [← hw3]; exact (Fr.refl [] w2).alloc _
  obtain ⟨b3, hb3⟩ : ∃ x, w2.heap.size = x := ⟨_, rfl⟩
  rw [hb3] at P3
  obtain ⟨w4, hw4⟩ : ∃ x, w3.alloc (.cells #[.int .i64 T.st, .int .i64 T.ev, .int .i64 T.sr, .slice none 0 0] RTab) = x := ⟨_, rfl⟩
  have P4 := Pt.newA w3 RTab #[.int .i64 T.st, .int .i64 T.ev, .int .i64 T.sr, .slice none 0 0]
  rw [hw4] at P4
  have F4 : Fr [] w3 w4 := by rw [← hw4]; exact (Fr.refl [] w3).alloc _
  obtain ⟨b4, hb4⟩ : ∃ x, w3.heap.size = x := ⟨_, rfl⟩
  rw [hb4] at P4
  have l1 := P1.lt
  have l2 := P2.lt
  have l3 := P3.lt
  have l4 := P4.lt
  have lt12 : b1 < b2 := by omega
  have lt23 : b2 < b3 := by omega
  have lt34 : b3 < b4 := by omega
  have wb1 : w.heap.size ≤ b1 := by omega
  have s4e : w4.heap.size ≤ b4 + 1 := by rw [← hw4, World.size_alloc]; omega
  have Q1 := F4.pt (F3.pt (F2.pt P1 (by simp)) (by simp)) (by simp)
  have Q2 := F4.pt (F3.pt P2 (by simp)) (by simp)
  have Q3 := F4.pt P3 (by simp)
  have FA := ((F1.trans F2).trans F3).trans F4
  have k1 := (F3.pt (F2.pt P1 (by simp)) (by simp)).cell
  replace P1 := Lib.hid P1; replace P2 := Lib.hid P2; replace P3 := Lib.hid P3; replace P4 := Lib.hid P4; replace Q1 := Lib.hid Q1; replace Q2 := Lib.hid Q2; replace Q3 := Lib.hid Q3; replace F1 := Lib.hid F1; replace F2 := Lib.hid F2; replace F3 := Lib.hid F3; replace F4 := Lib.hid F4; replace FA := Lib.hid FA; replace hlR := Lib.hid hlR; replace hV := Lib.hid hV; replace hrl := Lib.hid hrl; replace hst := Lib.hid hst; replace hev := Lib.hid hev; replace hch := Lib.hid hch; replace hrow := Lib.hid hrow; replace hs := Lib.hid hs; replace he := Lib.hid he; replace hy := Lib.hid hy; replace hw4 := Lib.hid hw4
  go_enter Try.func93, Try.ntmps93
  go_wp2_with fail
  rw [hw4.out]
  clear k1 hw1 hw2 hw3 hb1 hb2 hb3 hb4
  go_loopg [10] (T.rows.length + 1) (fun k v10 wr => ∃ (i : Nat) (rv : Value) (us : List Value) (bo : Option Nat) (bs : Nat → Option Nat), i ≤ T.rows.length ∧ k + i = T.rows.length + 1 ∧ v10 = .int .i64 i ∧ ORows (fun b => b4 < b) wr rv (T.rows.take i) us bo bs ∧ Pt wr b4 RTab [.int .i64 T.st, .int .i64 T.ev, .int .i64 T.sr, rv] ∧ Fr [b4] w4 wr)
  case atStart => exact ⟨0, _, [], none, fun _ => none, by omega, by omega, rfl, ORows.nil _ _ _, P4.out, Fr.refl _ _⟩
  case round =>
    obtain ⟨i, rv, us, bo, bs, hi, hk, rfl, hO, h4, hF⟩ := hrel
    obtain ⟨wi, rfl⟩ : ∃ x : World, x = wr := ⟨_, rfl⟩
    have q1 := hF.pt Q1.out (by simp; omega)
    have q2 := hF.pt Q2.out (by simp; omega)
    have q3 := hF.pt Q3.out (by simp; omega)
    have FW : Fr [] w wi := FA.out.step hF (fun z hz => .inr (by simp at hz; omega))
    have sz4 := hF.size
    by_cases hlt : i < T.rows.length
    · have hltI : (i : Int) < T.rows.length := by omega
      obtain ⟨BB, off, u, rfl, hBB, hcB, hu⟩ := hlR.out i hlt
      obtain ⟨row, hrow2⟩ : ∃ row, T.rows[i] = row := ⟨_, rfl⟩
      have hrlen := hV.out.row _ (List.getElem_mem hlt)
      rw [hrow2] at hu hrlen
      have hu' := hu
      obtain ⟨o2', cap2, rfl, _⟩ := hu'
      have c1 := FW.cell (p := ⟨BB, off + i, none⟩) hBB (by simp)
      rw [hcB] at c1
      have htk : T.rows.take (i + 1) = T.rows.take i ++ [row] := by rw [List.take_succ_eq_append_getElem hlt, hrow2]
      have ul : us.length = i := by rw [hO.len, List.length_take]; omega
      have fz : Fr [] wi wi.drew := (Fr.refl [] wi).drew
      have hev' := hev.out
      obtain ⟨v5, w5, b5, happ1, hr5, hb5, f5⟩ := copyR_run o2' cap2 row wi.drew (hu.fr (FW.trans fz)) (by omega) (by omega)
      obtain ⟨o5, c5, hv5⟩ := hr5.len
      subst hv5
      have f5' : Fr [] wi w5 := fz.trans f5
      obtain ⟨v6, w6, b6, happ2, hr6, hb6, f6⟩ := (hO.row.fr f5' (by simp)).oneRRs (by omega) (.slice o5 row.length c5) rfl
      obtain ⟨bs', hN⟩ := hO.add f5' hr5 hb5 (fun z hz => by omega) hr6 hb6 f6
      rw [← htk] at hN
      obtain ⟨o6, c6, hv6⟩ := hr6.len
      obtain ⟨o3, c3, hv3⟩ := hO.row.len
      rw [ul] at hv3
      subst hv3
      rw [List.length_append, ul] at hv6
      subst hv6
      have a5 := f5'.pt h4 (by simp)
      have hb4bo : b4 ∉ bo.toList := fun hm => by have := hO.qo b4 (by simpa using hm); omega
      have a6 := f6.pt a5 hb4bo
      have z6 := a6.free
      have k6 := a6.cell
      have a7 := a6.set 3 (.slice o6 (i + [Value.slice o5 row.length c5].length) c6)
      have f7 : Fr [b4] w6 (w6.setCell ⟨b4, 3, none⟩ (.slice o6 (i + [Value.slice o5 row.length c5].length) c6)) := (Fr.refl _ _).setCell (by simp) _
      obtain ⟨w7, hw7⟩ : ∃ y, w6.setCell ⟨b4, 3, none⟩ (.slice o6 (i + [Value.slice o5 row.length c5].length) c6) = y := ⟨_, rfl⟩
      rw [hw7] at a7 f7
      simp only [List.set_cons_zero, List.set_cons_succ] at a7
      have hN7 := hN.fr f7 (fun z hz => by simp at hz; omega)
      have F7 : Fr [b4] w4 w7 := ((hF.trans (f5'.mono (by simp))).step f6 (fun z hz => .inr (by have := hO.qo z (by simpa using hz); omega))).trans f7
      simp only [List.length_singleton] at happ2 a7 hN7 hw7
      have s5 := f5'.size
      have s6 := f6.size
      have l41 : b4 < wi.heap.size := by omega
      have l42 : b4 < w5.heap.size := by omega
      have l11 : b1 < wi.heap.size := by omega
      have l12 : b1 < w5.heap.size := by omega
      have lB1 : BB < wi.heap.size := by have := FW.size; omega
      have lB2 : BB < w5.heap.size := by omega
      have k4 := h4.cell
      have k1 := q1.cell
      have k45 := a5.cell
      have k15 := (f5'.pt q1 (by simp)).cell
      have c5' := f5'.cell (p := ⟨BB, off + i, none⟩) lB1 (by simp)
      rw [c1] at c5'
      rw [show wi.drew.alloc (.cells #[] RRow) = (wi.alloc (.cells #[] RRow)).drew from rfl, show wi.drew.heap.size = wi.heap.size from rfl] at happ1
      replace hO := Lib.hid hO; replace h4 := Lib.hid h4; replace hF := Lib.hid hF; replace q1 := Lib.hid q1; replace q2 := Lib.hid q2; replace q3 := Lib.hid q3; replace FW := Lib.hid FW; replace hu := Lib.hid hu; replace htk := Lib.hid htk; replace hrlen := Lib.hid hrlen; replace hcB := Lib.hid hcB; replace hrow2 := Lib.hid hrow2; replace fz := Lib.hid fz; replace hr5 := Lib.hid hr5; replace hb5 := Lib.hid hb5; replace f5 := Lib.hid f5; replace f5' := Lib.hid f5'; replace hr6 := Lib.hid hr6; replace hb6 := Lib.hid hb6; replace f6 := Lib.hid f6; replace hN := Lib.hid hN; replace a5 := Lib.hid a5; replace a6 := Lib.hid a6; replace a7 := Lib.hid a7; replace f7 := Lib.hid f7; replace hN7 := Lib.hid hN7; replace F7 := Lib.hid F7; replace happ1 := Lib.hid happ1; replace happ2 := Lib.hid happ2; replace ul := Lib.hid ul; replace hb4bo := Lib.hid hb4bo
      go_upto_region 6 with fail
      go_region_law (first
        | (refine step_append_run rfl _ _ _ rfl (v := .slice (some ⟨wi.heap.size, 0, none⟩) 0 0) rfl (xv := .slice o2' row.length cap2) rfl happ1.out ?_)
        | (refine step_append_run rfl _ _ _ rfl (v := .slice o3 i c3) rfl (xv := .slice (some ⟨w5.heap.size, 0, none⟩) 1 1) rfl happ2.out ?_))
      all_goals
        go_wp2_with fail
        go_roundg (gk - 1)
        case measure => omega
        case rel => exact ⟨i + 1, _, _, _, _, by omega, by omega, by go_num, hN7.out, a7.out, F7.out⟩
    · as_aux_lemma =>
      have hltI : ¬ (i : Int) < T.rows.length := by omega
      obtain rfl : i = T.rows.length := by omega
      rw [List.take_length] at hO
      have k1 := q1.cell
      obtain ⟨w5, hw5⟩ : ∃ x, wi.drew = x := ⟨_, rfl⟩
      have f5 : Fr [] wi w5 := by rw [← hw5]; exact (Fr.refl [] wi).drew
      have hO5 := hO.fr f5 (by simp)
      have q25 := f5.pt q2 (by simp)
      have h45 := f5.pt h4 (by simp)
      obtain ⟨br, or, cr, bz, oz, cz, hrv, g1, g2, g3, g4, g5, g6, ⟨u1, g7⟩, ⟨u2, g8⟩, g9, g10, hO6, f6⟩ := hO5.put s e hsR heR (y1, y2)
      obtain ⟨w6, hw6⟩ : ∃ x, (w5.setCell ⟨bz, oz + e * 2, none⟩ (.int .i64 y1)).setCell ⟨bz, oz + e * 2 + 1, none⟩ (.int .i64 y2) = x := ⟨_, rfl⟩
      dsimp only at hO6 f6
      rw [hw6] at hO6 f6
      rw [← hch.out] at hO6
      subst hrv
      have k4 := h45.cell
      have k2 := q25.cell
      have h46 := f6.pt h45 (by simp; omega)
      have k46 := h46.cell
      have q36 := f6.pt (f5.pt q3 (by simp)) (by simp; omega)
      have c36 := q36.cell
      have z36 := q36.free
      have p7 := (((q36.set 0 (.int .i64 T.st)).set 1 (.int .i64 T.ev)).set 2 (.int .i64 T.sr)).set 3 (.slice (some ⟨br, or, none⟩) T.rows.length cr)
      have f7 : Fr [b3] w6 ((((w6.setCell ⟨b3, 0, none⟩ (.int .i64 T.st)).setCell ⟨b3, 1, none⟩ (.int .i64 T.ev)).setCell ⟨b3, 2, none⟩ (.int .i64 T.sr)).setCell ⟨b3, 3, none⟩ (.slice (some ⟨br, or, none⟩) T.rows.length cr)) := ((((Fr.refl _ w6).setCell (by simp) _).setCell (by simp) _).setCell (by simp) _).setCell (by simp) _
      obtain ⟨w7, hw7⟩ : ∃ x, (((w6.setCell ⟨b3, 0, none⟩ (.int .i64 T.st)).setCell ⟨b3, 1, none⟩ (.int .i64 T.ev)).setCell ⟨b3, 2, none⟩ (.int .i64 T.sr)).setCell ⟨b3, 3, none⟩ (.slice (some ⟨br, or, none⟩) T.rows.length cr) = x := ⟨_, rfl⟩
      rw [hw7] at p7 f7
      simp only [List.set_cons_zero, List.set_cons_succ] at p7
      have k37 := p7.cell
      have hO7 := hO6.fr f7 (fun q hq => by simp at hq; omega)
      have F7 : Fr [] w w7 := ((FW.trans f5).step f6 (fun q hq => .inr (by simp at hq; omega))).step f7 (fun q hq => .inr (by simp at hq; omega))
      have GO : ChgR (T.chg x) w (.returned (.agg #[.int .i64 T.st, .int .i64 T.ev, .int .i64 T.sr, .slice (some ⟨br, or, none⟩) T.rows.length cr])) w7 := ⟨_, us, bo, bs, rfl, ⟨hO7.row, hO7.len, hO7.each, hO7.inj, hO7.nbo, fun z hz => by have := hO7.qo z hz; omega, fun k z hk hz => by have := hO7.qs k z hk hz; omega⟩, F7⟩
      replace hO := Lib.hid hO; replace h4 := Lib.hid h4; replace hF := Lib.hid hF; replace q1 := Lib.hid q1; replace q2 := Lib.hid q2; replace q3 := Lib.hid q3; replace FW := Lib.hid FW; replace f5 := Lib.hid f5; replace hO5 := Lib.hid hO5; replace q25 := Lib.hid q25; replace h45 := Lib.hid h45; replace hO6 := Lib.hid hO6; replace f6 := Lib.hid f6; replace h46 := Lib.hid h46; replace q36 := Lib.hid q36; replace p7 := Lib.hid p7; replace f7 := Lib.hid f7; replace hO7 := Lib.hid hO7; replace F7 := Lib.hid F7; replace GO := Lib.hid GO; replace g3 := Lib.hid g3; replace g4 := Lib.hid g4; replace hw5 := Lib.hid hw5
      go_wp2_with fail
      go_still_tail 8, (by kernel_rfl)
      rw [show ({ heap := wi.heap, tape := wi.tape, drawn := wi.drawn + 1, os := wi.os, output := wi.output } : World) = wi.drew from rfl, hw5.out]
      repeat still_step
      first | refine wpStill_nil ?_ | skip
      go_wp2_with fail
      refine bodyPost_ret (v := .agg #[.int .i64 T.st, .int .i64 T.ev, .int .i64 T.sr, .slice (some ⟨br, or, none⟩) T.rows.length cr]) (by simp [results, Try.results93, go_sem, k37]) rfl GO.out
end Go.Proofs.Ytnggimkkjdipmaa
