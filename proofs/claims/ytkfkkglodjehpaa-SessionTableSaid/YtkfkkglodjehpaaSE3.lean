import Derived.Test.YtkfkkglodjehpaaSE2
import Derived.Laws.MakeOwn
import Derived.StillTailTactics
import Derived.ChangeKeysEq
namespace Go.Proofs.Ytkfkkglodjehpaa
open Go.RowKit
set_option linter.unusedVariables false
set_option linter.unusedSimpArgs false
set_option maxHeartbeats 16000000
set_option maxRecDepth 100000
noncomputable def iTRow2 : TypeInfo := (Try.prog.info? TRow).getD default
theorem infoTRow2 : Try.prog.info? TRow = some iTRow2 := by kernel_rfl
noncomputable def zTRow2 : Value := iTRow2.zero.getD default
def zrow (n : Nat) : List (Int × Int) := List.replicate n (0, 0)
theorem make_rows (w : World) : (Instr.makeSlice 45 (.int .i64 12) (.int .i64 12)).run Try.prog w = .ok (.slice (some ⟨w.heap.size, 0, none⟩) 12 12) (w.alloc (.cells (pcells (zrow 12)).toArray TRow)) := by
  rw [run_make (P := Try.prog) w 45 TRow iTRow2 zTRow2 uTRows infoTRow2 (by kernel_rfl) .i64 .i64 12 12 (by omega) (by omega) (by rw [show iTRow2.bytes = 16 by kernel_rfl]; omega) (by omega)]
  rw [show iTRow2.size = 2 by kernel_rfl, show zTRow2.cells = #[.int .i64 0, .int .i64 0] by kernel_rfl, show madeCells #[Value.int IntKind.i64 0, Value.int IntKind.i64 0] (Int.toNat 12 * 2) = (pcells (zrow 12)).toArray by kernel_rfl]
  rfl
def mixed (s : Int) (j : Nat) : List (Int × Int) := (List.range 12).map fun k => if k < j then (s, 0) else (0, 0)
theorem mixed_zero (s : Int) : pcells (zrow 12) = pcells (mixed s 0) := rfl
theorem mixed_set (s : Int) : ∀ j, j < 12 → (pcells (mixed s j)).set (j * 2) (.int .i64 s) = pcells (mixed s (j + 1))
  | 0, _ | 1, _ | 2, _ | 3, _ | 4, _ | 5, _ | 6, _ | 7, _ | 8, _ | 9, _ | 10, _ | 11, _ => rfl
  | j + 12, h => by omega
theorem mixed_at (s : Int) : ∀ j k, k < 12 → ∃ u v, (pcells (mixed s j))[k * 2]? = some (.int .i64 u) ∧ (pcells (mixed s j))[k * 2 + 1]? = some (.int .i64 v) := fun j k h => by
  have hl : (mixed s j).length = 12 := by simp [mixed]
  have := pcells_get (mixed s j) k (by omega)
  exact ⟨_, _, this⟩
def liveR (s : Int) : List (Int × Int) := [(s, 0), (s, 0), (s, 0), (s, 0), (s, 0), (s, 0), (s, 0), (6, 1), (6, 3), (6, 3), (6, 3), (6, 2)]
theorem live_set (s : Int) : (((((((((((pcells (mixed s 12)).set 14 (.int .i64 6)).set 15 (.int .i64 1)).set 16 (.int .i64 6)).set 17 (.int .i64 3)).set 18 (.int .i64 6)).set 19 (.int .i64 3)).set 20 (.int .i64 6)).set 21 (.int .i64 3)).set 22 (.int .i64 6)).set 23 (.int .i64 2)) = pcells (liveR s) := rfl
theorem sesB_len : sesB.length = 7 := rfl
theorem sesB_live : ∀ (i : Nat) (h : i < sesB.length), 1 ≤ i → i ≤ 5 → sesB[i] = liveR i
  | 1, _, _, _ | 2, _, _, _ | 3, _, _, _ | 4, _, _, _ | 5, _, _, _ => rfl
  | 0, _, h, _ => by omega
  | i + 6, _, _, h => by omega
theorem sesB_end : ∀ (i : Nat) (h : i < sesB.length), i = 0 ∨ i = 6 → sesB[i] = mixed i 12
  | 0, _, _ | 6, _, _ => rfl
  | 1, _, h | 2, _, h | 3, _, h | 4, _, h | 5, _, h => by omega
  | i + 7, h, _ => by have := sesB_len; omega
theorem Pt.row2 {w : World} {b : Nat} {T : TypeId} {l : List (Int × Int)} (h : Pt w b T (pcells l)) (n : Nat) (hn : l.length = n) : Row 2 w (.slice (some ⟨b, 0, none⟩) n n) l.length (pcells l) (some b) := by
  subst hn
  refine .inr ⟨b, 0, _, rfl, rfl, Nat.le_refl _, h.lt, pcells_len l, fun j hj => ?_, fun j hj => ?_⟩
  · rw [Nat.zero_add]
    refine ⟨?_, h.free j⟩
    rw [h.cell, List.getElem?_eq_getElem (by rw [pcells_len]; exact hj)]; rfl
  · rw [Nat.zero_add, h.cell]
def sesO : List (Nat × Nat × (Int × Int)) := [(0, 0, (1, 1)), (2, 1, (3, 1)), (2, 2, (6, 1)), (3, 3, (3, 1)), (3, 4, (4, 1)), (5, 5, (6, 1)), (5, 6, (3, 1)), (0, 8, (2, 2)), (1, 9, (3, 2)), (3, 10, (5, 2)), (4, 10, (5, 2))]
def stepO (R : List (List (Int × Int))) (x : Nat × Nat × (Int × Int)) : List (List (Int × Int)) := R.set x.1 ((R.getD x.1 []).set x.2.1 x.2.2)
def sesAt (i : Nat) : List (List (Int × Int)) := (sesO.take i).foldl stepO sesB
theorem sesAt_all : sesAt 11 = sesR := by decide +kernel
theorem sesAt_zero : sesAt 0 = sesB := rfl
theorem sesO_len : sesO.length = 11 := rfl
theorem sesAt_succ (i : Nat) (h : i < sesO.length) : sesAt (i + 1) = stepO (sesAt i) sesO[i] := by
  unfold sesAt
  rw [List.take_succ_eq_append_getElem h, List.foldl_append]; rfl
theorem sesAt_ok : ∀ i, i < 12 → (sesAt i).length = 7 ∧ ∀ l ∈ sesAt i, l.length = 12
  | 0, _ | 1, _ | 2, _ | 3, _ | 4, _ | 5, _ | 6, _ | 7, _ | 8, _ | 9, _ | 10, _ | 11, _ => by decide +kernel
  | i + 12, h => by omega
theorem sesO_ok : ∀ x ∈ sesO, x.1 < 7 ∧ x.2.1 < 12 := by decide +kernel
theorem ses_index (w : World) : ∀ (i : Nat) (h : i < sesO.length), (Instr.index 48 (.agg #[.int .i64 0, .int .i64 0, .int .i64 1, .int .i64 1, .int .i64 2, .int .i64 1, .int .i64 3, .int .i64 1, .int .i64 2, .int .i64 2, .int .i64 6, .int .i64 1, .int .i64 3, .int .i64 3, .int .i64 3, .int .i64 1, .int .i64 3, .int .i64 4, .int .i64 4, .int .i64 1, .int .i64 5, .int .i64 5, .int .i64 6, .int .i64 1, .int .i64 5, .int .i64 6, .int .i64 3, .int .i64 1, .int .i64 0, .int .i64 8, .int .i64 2, .int .i64 2, .int .i64 1, .int .i64 9, .int .i64 3, .int .i64 2, .int .i64 3, .int .i64 10, .int .i64 5, .int .i64 2, .int .i64 4, .int .i64 10, .int .i64 5, .int .i64 2]) (.int .i64 (i : Int))).run Try.prog w = .ok (.agg #[.int .i64 (sesO[i].1 : Int), .int .i64 (sesO[i].2.1 : Int), .int .i64 sesO[i].2.2.1, .int .i64 sesO[i].2.2.2]) w
  | 0, _ => by kernel_rfl
  | 1, _ => by kernel_rfl
  | 2, _ => by kernel_rfl
  | 3, _ => by kernel_rfl
  | 4, _ => by kernel_rfl
  | 5, _ => by kernel_rfl
  | 6, _ => by kernel_rfl
  | 7, _ => by kernel_rfl
  | 8, _ => by kernel_rfl
  | 9, _ => by kernel_rfl
  | 10, _ => by kernel_rfl
  | i + 11, h => by have := sesO_len; omega
theorem sesTab_any (w : World) : Calls Try.prog 4 #[] w (SeR w) := by
  have hbl := sesB_len
  have hbv := fun i h a b => sesB_live i h a b
  have hbe := fun i h a => sesB_end i h a
  have hall := sesAt_all
  have hat0 := sesAt_zero
  obtain ⟨BB, hBB⟩ : ∃ y, sesB = y := ⟨_, rfl⟩
  simp only [hBB] at hbv hbe hat0
  rw [hBB] at hbl
  have hmk := fun W => make_rows W
  obtain ⟨zc, hzc⟩ : ∃ y, pcells (zrow 12) = y := ⟨_, rfl⟩
  simp only [hzc] at hmk
  obtain ⟨w0, hw0⟩ : ∃ x, w.alloc (.cells #[.int .i64 0, .int .i64 0, .int .i64 0, .slice none 0 0] TTab) = x := ⟨_, rfl⟩
  have P0 := Pt.newA w TTab #[.int .i64 0, .int .i64 0, .int .i64 0, .slice none 0 0]
  rw [hw0] at P0
  have F0 : Fr [] w w0 := by rw [← hw0]; exact (Fr.refl [] w).alloc _
  obtain ⟨b0, hb0⟩ : ∃ x, w.heap.size = x := ⟨_, rfl⟩
  rw [hb0] at P0
  obtain ⟨w1, hw1⟩ : ∃ x, w0.alloc (.cells #[.int .i64 7, .int .i64 12, .int .i64 0, .slice none 0 0] TTab) = x := ⟨_, rfl⟩
  have P1 := Pt.newA w0 TTab #[.int .i64 7, .int .i64 12, .int .i64 0, .slice none 0 0]
  rw [hw1] at P1
  have F1 : Fr [] w0 w1 := by rw [← hw1]; exact (Fr.refl [] w0).alloc _
  obtain ⟨b1, hb1⟩ : ∃ x, w0.heap.size = x := ⟨_, rfl⟩
  rw [hb1] at P1
  have l0 := P0.lt
  have lt01 : b0 < b1 := by omega
  have wb0 : w.heap.size ≤ b0 := by omega
  have l1 := P1.lt
  have wb1 : w0.heap.size ≤ b1 := by omega
  have Q0 := F1.pt P0 (by simp)
  have FA := F0.trans F1
  have s1e : w1.heap.size ≤ b1 + 1 := by rw [← hw1, World.size_alloc]; omega
  replace P0 := Lib.hid P0; replace P1 := Lib.hid P1; replace F0 := Lib.hid F0; replace F1 := Lib.hid F1; replace Q0 := Lib.hid Q0; replace FA := Lib.hid FA; replace hw1 := Lib.hid hw1; replace hbl := Lib.hid hbl; replace hbv := Lib.hid hbv; replace hbe := Lib.hid hbe; replace hall := Lib.hid hall; replace hat0 := Lib.hid hat0; replace hBB := Lib.hid hBB; replace hzc := Lib.hid hzc; replace hmk := Lib.hid hmk
  go_enter Try.func4, Try.ntmps4
  go_wp2_with fail
  rw [hw1.out]
  clear hw0 hb0 hb1
  go_loopg [2] 8 (fun k v2 wr => ∃ (i : Nat) (rv : Value) (us : List Value) (bo : Option Nat) (bs : Nat → Option Nat), i ≤ 7 ∧ k + i = 8 ∧ v2 = .int .i64 i ∧ ORows (fun b => b1 < b) wr rv (BB.take i) us bo bs ∧ Pt wr b1 TTab [.int .i64 7, .int .i64 12, .int .i64 0, rv] ∧ Fr [b1] w1 wr)
  case atStart => exact ⟨0, _, [], none, fun _ => none, by omega, by omega, rfl, ORows.nil _ _ _, P1.out, Fr.refl _ _⟩
  case round =>
    obtain ⟨i, rv, us, bo, bs, hi, hk, rfl, hO, h1, hF⟩ := hrel
    obtain ⟨wi, rfl⟩ : ∃ x : World, x = wr := ⟨_, rfl⟩
    obtain ⟨gi, rfl⟩ : ∃ g : Nat, g = gk := ⟨_, rfl⟩
    have q0 := hF.pt Q0.out (by simp; omega)
    have szi := hF.size
    by_cases hlt : i < 7
    · have hltI : (i : Int) ≤ 6 := by omega
      have hir : i < BB.length := by rw [hbl.out]; exact hlt
      have htk : BB.take (i + 1) = BB.take i ++ [BB[i]] := List.take_succ_eq_append_getElem hir
      have hm := hmk.out wi
      have k1 := h1.cell
      obtain ⟨w3, hw3⟩ : ∃ x, wi.alloc (.cells zc.toArray TRow) = x := ⟨_, rfl⟩
      have P3 := Pt.new wi TRow zc
      rw [hw3] at P3 hm
      have F3 : Fr [] wi w3 := by rw [← hw3]; exact (Fr.refl [] wi).alloc _
      obtain ⟨b3, hb3⟩ : ∃ x, wi.heap.size = x := ⟨_, rfl⟩
      rw [hb3] at P3 hm
      rw [← hzc.out, mixed_zero (i : Int)] at P3
      have lt13 : b1 < b3 := by omega
      replace hO := Lib.hid hO; replace h1 := Lib.hid h1; replace hF := Lib.hid hF; replace q0 := Lib.hid q0; replace htk := Lib.hid htk; replace P3 := Lib.hid P3; replace F3 := Lib.hid F3
      go_wp2_with fail
      clear k1
      go_loopg [17] 13 (fun k v17 wr => ∃ j : Nat, j ≤ 12 ∧ k + j = 13 ∧ v17 = .int .i64 j ∧ Pt wr b3 TRow (pcells (mixed i j)) ∧ Fr [b3] w3 wr)
      case atStart => exact ⟨0, by omega, by omega, rfl, P3.out, Fr.refl _ _⟩
      case round =>
        obtain ⟨j, hj, hk2, rfl, hP, hG⟩ := hrel
        obtain ⟨wj, rfl⟩ : ∃ x : World, x = wr := ⟨_, rfl⟩
        by_cases hjl : j < 12
        · as_aux_lemma =>
          have hjlI : (j : Int) < 12 := by omega
          obtain ⟨u, v, e1, e2⟩ := mixed_at (i : Int) j j hjl
          have c1 := hP.cell (j * 2)
          rw [e1] at c1
          have z1 := hP.free
          have p4 := hP.set (j * 2) (.int .i64 (i : Int))
          rw [mixed_set _ j hjl] at p4
          have f4 : Fr [b3] wj (wj.setCell ⟨b3, j * 2, none⟩ (.int .i64 (i : Int))) := (Fr.refl _ _).setCell (by simp) _
          obtain ⟨w4, hw4⟩ : ∃ x, wj.setCell ⟨b3, j * 2, none⟩ (.int .i64 (i : Int)) = x := ⟨_, rfl⟩
          rw [hw4] at p4 f4
          have G4 := hG.trans f4
          clear hm
          replace hP := Lib.hid hP; replace hG := Lib.hid hG; replace e1 := Lib.hid e1; replace e2 := Lib.hid e2; replace p4 := Lib.hid p4; replace f4 := Lib.hid f4; replace G4 := Lib.hid G4
          go_wp2_with fail
          go_roundg (gk - 1)
          case measure => omega
          case rel => exact ⟨j + 1, by omega, by omega, by go_num, p4.out, G4.out⟩
        · have hjlI : ¬ (j : Int) < 12 := by omega
          obtain rfl : j = 12 := by omega
          have hb1n : b1 ∉ [b3] := by simp; omega
          have GF : Fr [b3] wi wj := (F3.out.mono (by simp)).trans hG
          -- the row as it stands behind the if
          have fin : ∀ (W : World) (l : List (Int × Int)), Pt W b3 TRow (pcells l) → l.length = 12 → Fr [b3] wj W → BB[i] = l → ∃ v' w9 us' bo' bs' w10, (Builtin.append_ #[22, 22] 22 #[rv, .slice (some ⟨W.heap.size, 0, none⟩) 1 1]).run Try.prog (W.alloc (.cells #[.slice (some ⟨b3, 0, none⟩) 12 12] 45)) = .ok v' w9 ∧ (∃ o k c, v' = .slice o k c) ∧ w9.setCell ⟨b1, 3, none⟩ v' = w10 ∧ Pt w9 b1 TTab [.int .i64 7, .int .i64 12, .int .i64 0, rv] ∧ Pt W b1 TTab [.int .i64 7, .int .i64 12, .int .i64 0, rv] ∧ ORows (fun b => b1 < b) w10 v' (BB.take (i + 1)) us' bo' bs' ∧ Pt w10 b1 TTab [.int .i64 7, .int .i64 12, .int .i64 0, v'] ∧ Fr [b1] w1 w10 := fun W l hp hl fw hbe2 => by
            have FW : Fr [b3] wi W := GF.trans fw
            have FW0 : Fr [] wi W := (Fr.refl [] wi).step FW (fun x hx => .inr (by simp at hx; omega))
            obtain ⟨v6, w6, b6, happ, hr6, hb6, f6⟩ := (hO.out.row.fr FW0 (by simp)).oneTRs (by have := hO.out.len; rw [List.length_take] at this; omega) (.slice (some ⟨b3, 0, none⟩) 12 12) rfl
            obtain ⟨bs', hN⟩ := hO.out.add FW0 (hp.row2 12 hl) (fun z hz => by cases hz; omega) (fun z hz => by omega) hr6 hb6 f6
            rw [← hbe2, ← htk.out] at hN
            obtain ⟨o6, c6, hv6⟩ := hr6.len
            have hb1bo : b1 ∉ bo.toList := fun hm => by have := hO.out.qo b1 (by simpa using hm); omega
            have a5 := FW0.pt h1.out (by simp)
            have a6 := f6.pt a5 hb1bo
            have a7 := a6.set 3 v6
            have f7 : Fr [b1] w6 (w6.setCell ⟨b1, 3, none⟩ v6) := (Fr.refl _ _).setCell (by simp) _
            have hN7 := hN.fr f7 (fun z hz => by simp at hz; omega)
            exact ⟨v6, w6, _, _, bs', _, happ, ⟨_, _, _, hv6⟩, rfl, a6, a5, hN7, a7, ((hF.out.trans (FW0.mono (by simp))).step f6 (fun z hz => .inr (by have := hO.out.qo z (by simpa using hz); omega))).trans f7⟩
          obtain ⟨o2, n2, c2, hv2⟩ := hO.out.rinb.shape
          subst hv2
          clear hm
          by_cases hlive : 1 ≤ i ∧ i ≤ 5
          · as_aux_lemma =>
            obtain ⟨hi1, hi5⟩ := hlive
            have e0 : ((i : Int) != 0) = true := by simp; omega
            have e6 : ((i : Int) != 6) = true := by simp; omega
            have ca1 : wj.cell? ⟨b3, 14, none⟩ = some (.int .i64 (i : Int)) := by rw [hP.cell]; rfl
            have cb1 : wj.cell? ⟨b3, 15, none⟩ = some (.int .i64 0) := by rw [hP.cell]; rfl
            have cz1 := hP.free
            have q1 := (hP.set 14 (.int .i64 6)).set 15 (.int .i64 1)
            have g1 : Fr [b3] wj ((wj.setCell ⟨b3, 14, none⟩ (.int .i64 6)).setCell ⟨b3, 15, none⟩ (.int .i64 1)) := ((Fr.refl _ _).setCell (by simp) _).setCell (by simp) _
            obtain ⟨x1, hx1⟩ : ∃ x, (wj.setCell ⟨b3, 14, none⟩ (.int .i64 6)).setCell ⟨b3, 15, none⟩ (.int .i64 1) = x := ⟨_, rfl⟩
            rw [hx1] at q1 g1
            have ca2 : x1.cell? ⟨b3, 16, none⟩ = some (.int .i64 (i : Int)) := by rw [q1.cell]; rfl
            have cb2 : x1.cell? ⟨b3, 17, none⟩ = some (.int .i64 0) := by rw [q1.cell]; rfl
            have cz2 := q1.free
            have q2 := (q1.set 16 (.int .i64 6)).set 17 (.int .i64 3)
            have g2 : Fr [b3] x1 ((x1.setCell ⟨b3, 16, none⟩ (.int .i64 6)).setCell ⟨b3, 17, none⟩ (.int .i64 3)) := ((Fr.refl _ _).setCell (by simp) _).setCell (by simp) _
            obtain ⟨x2, hx2⟩ : ∃ x, (x1.setCell ⟨b3, 16, none⟩ (.int .i64 6)).setCell ⟨b3, 17, none⟩ (.int .i64 3) = x := ⟨_, rfl⟩
            rw [hx2] at q2 g2
            have ca3 : x2.cell? ⟨b3, 18, none⟩ = some (.int .i64 (i : Int)) := by rw [q2.cell]; rfl
            have cb3 : x2.cell? ⟨b3, 19, none⟩ = some (.int .i64 0) := by rw [q2.cell]; rfl
            have cz3 := q2.free
            have q3 := (q2.set 18 (.int .i64 6)).set 19 (.int .i64 3)
            have g3 : Fr [b3] x2 ((x2.setCell ⟨b3, 18, none⟩ (.int .i64 6)).setCell ⟨b3, 19, none⟩ (.int .i64 3)) := ((Fr.refl _ _).setCell (by simp) _).setCell (by simp) _
            obtain ⟨x3, hx3⟩ : ∃ x, (x2.setCell ⟨b3, 18, none⟩ (.int .i64 6)).setCell ⟨b3, 19, none⟩ (.int .i64 3) = x := ⟨_, rfl⟩
            rw [hx3] at q3 g3
            have ca4 : x3.cell? ⟨b3, 20, none⟩ = some (.int .i64 (i : Int)) := by rw [q3.cell]; rfl
            have cb4 : x3.cell? ⟨b3, 21, none⟩ = some (.int .i64 0) := by rw [q3.cell]; rfl
            have cz4 := q3.free
            have q4 := (q3.set 20 (.int .i64 6)).set 21 (.int .i64 3)
            have g4 : Fr [b3] x3 ((x3.setCell ⟨b3, 20, none⟩ (.int .i64 6)).setCell ⟨b3, 21, none⟩ (.int .i64 3)) := ((Fr.refl _ _).setCell (by simp) _).setCell (by simp) _
            obtain ⟨x4, hx4⟩ : ∃ x, (x3.setCell ⟨b3, 20, none⟩ (.int .i64 6)).setCell ⟨b3, 21, none⟩ (.int .i64 3) = x := ⟨_, rfl⟩
            rw [hx4] at q4 g4
            have ca5 : x4.cell? ⟨b3, 22, none⟩ = some (.int .i64 (i : Int)) := by rw [q4.cell]; rfl
            have cb5 : x4.cell? ⟨b3, 23, none⟩ = some (.int .i64 0) := by rw [q4.cell]; rfl
            have cz5 := q4.free
            have q5 := (q4.set 22 (.int .i64 6)).set 23 (.int .i64 2)
            have g5 : Fr [b3] x4 ((x4.setCell ⟨b3, 22, none⟩ (.int .i64 6)).setCell ⟨b3, 23, none⟩ (.int .i64 2)) := ((Fr.refl _ _).setCell (by simp) _).setCell (by simp) _
            obtain ⟨x5, hx5⟩ : ∃ x, (x4.setCell ⟨b3, 22, none⟩ (.int .i64 6)).setCell ⟨b3, 23, none⟩ (.int .i64 2) = x := ⟨_, rfl⟩
            rw [hx5] at q5 g5
            rw [live_set] at q5
            have gf := (((g1.trans g2).trans g3).trans g4).trans g5
            obtain ⟨v', w9, us', bo', bs', w10, happ, ⟨o5, n5, c5, hv5⟩, hw10, a9, a5, hN, a10, F10⟩ := fin x5 (liveR i) q5 rfl gf (hbv.out i hir hi1 hi5)
            subst hv5
            have k5 := a5.cell
            have k9 := a9.cell
            have z9 := a9.free
            clear fin
            replace hP := Lib.hid hP; replace hG := Lib.hid hG; replace q1 := Lib.hid q1; replace q2 := Lib.hid q2; replace q3 := Lib.hid q3; replace q4 := Lib.hid q4; replace q5 := Lib.hid q5; replace g1 := Lib.hid g1; replace g2 := Lib.hid g2; replace g3 := Lib.hid g3; replace g4 := Lib.hid g4; replace g5 := Lib.hid g5; replace gf := Lib.hid gf; replace happ := Lib.hid happ; replace a9 := Lib.hid a9; replace a5 := Lib.hid a5; replace hN := Lib.hid hN; replace a10 := Lib.hid a10; replace F10 := Lib.hid F10; replace GF := Lib.hid GF
            go_wp2_with (first | (at_builtin; refine wpList_append_run _ rfl _ _ _ rfl rfl rfl happ.out ?_))
            go_roundg (gi - 1)
            case measure => omega
            case rel => exact ⟨i + 1, _, _, _, _, by omega, by omega, by go_num, hN.out, a10.out, F10.out⟩
          · as_aux_lemma =>
            have h06 : i = 0 ∨ i = 6 := by omega
            obtain ⟨v', w9, us', bo', bs', w10, happ, ⟨o5, n5, c5, hv5⟩, hw10, a9, a5, hN, a10, F10⟩ := fin wj (mixed i 12) hP rfl (Fr.refl _ _) (hbe.out i hir h06)
            subst hv5
            have k5 := a5.cell
            have k9 := a9.cell
            have z9 := a9.free
            clear fin
            replace hP := Lib.hid hP; replace hG := Lib.hid hG; replace happ := Lib.hid happ; replace a9 := Lib.hid a9; replace a5 := Lib.hid a5; replace hN := Lib.hid hN; replace a10 := Lib.hid a10; replace F10 := Lib.hid F10; replace GF := Lib.hid GF; replace hlive := Lib.hid hlive
            by_cases h0 : i = 0
            · have e0 : ((i : Int) != 0) = false := by simp; omega
              replace h0 := Lib.hid h0; replace h06 := Lib.hid h06
              go_wp2_with (first | (at_builtin; refine wpList_append_run _ rfl _ _ _ rfl rfl rfl happ.out ?_))
              go_roundg (gi - 1)
              case measure => omega
              case rel => exact ⟨i + 1, _, _, _, _, by omega, by omega, by go_num, hN.out, a10.out, F10.out⟩
            · have e0 : ((i : Int) != 0) = true := by simp; omega
              have e6 : ((i : Int) != 6) = false := by simp; omega
              replace h0 := Lib.hid h0; replace h06 := Lib.hid h06
              go_wp2_with (first | (at_builtin; refine wpList_append_run _ rfl _ _ _ rfl rfl rfl happ.out ?_))
              go_roundg (gi - 1)
              case measure => omega
              case rel => exact ⟨i + 1, _, _, _, _, by omega, by omega, by go_num, hN.out, a10.out, F10.out⟩
    · have hltI : ¬ (i : Int) ≤ 6 := by omega
      obtain rfl : i = 7 := by omega
      have hbt : BB.take 7 = BB := List.take_of_length_le (by rw [hbl.out]; omega)
      rw [hbt, ← hat0.out] at hO
      obtain ⟨o2, n2, c2, hv2⟩ := hO.rinb.shape
      subst hv2
      replace hO := Lib.hid hO; replace h1 := Lib.hid h1; replace hF := Lib.hid hF; replace q0 := Lib.hid q0; replace hbt := Lib.hid hbt
      go_wp2_with fail
      have hol := sesO_len
      have hix := fun W i h => ses_index W i h
      have hsuc := fun i h => sesAt_succ i h
      have hsok := fun i h => sesAt_ok i h
      have hook := fun x h => sesO_ok x h
      obtain ⟨OO, hOO⟩ : ∃ y, sesO = y := ⟨_, rfl⟩
      simp only [hOO] at hix hsuc hook
      rw [hOO] at hol
      clear hmk
      replace hol := Lib.hid hol; replace hix := Lib.hid hix; replace hsuc := Lib.hid hsuc; replace hsok := Lib.hid hsok; replace hook := Lib.hid hook; replace hOO := Lib.hid hOO
      go_loopg [65] 12 (fun k v65 wr => ∃ i : Nat, i ≤ 11 ∧ k + i = 12 ∧ v65 = .int .i64 i ∧ ORows (fun b => b1 < b) wr (.slice o2 n2 c2) (sesAt i) us bo bs ∧ Fr [] w0 wr ∧ Pt wr b1 TTab [.int .i64 7, .int .i64 12, .int .i64 0, .slice o2 n2 c2])
      case atStart => exact ⟨0, by omega, by omega, rfl, hO.out, F1.out.step hF.out (fun x hx => .inr (by simp at hx; omega)), h1.out⟩
      clear hO h1 hF q0
      case round =>
        obtain ⟨i, hi, hk2, rfl, hO, hF, h1⟩ := hrel
        obtain ⟨wx, rfl⟩ : ∃ x : World, x = wr := ⟨_, rfl⟩
        by_cases hlt : i < 11
        · as_aux_lemma =>
          have hltI : (i : Int) < 11 := by omega
          have hio : i < OO.length := by rw [hol.out]; exact hlt
          have hx := fun W => hix.out W i hio
          have hsc2 := hsuc.out i hio
          have hob := hook.out _ (List.getElem_mem hio)
          obtain ⟨hs7, hsl⟩ := hsok.out i (by omega)
          obtain ⟨⟨s, e, y1, y2⟩, hoi⟩ : ∃ x, OO[i] = x := ⟨_, rfl⟩
          rw [hoi] at hob hsc2
          simp only [hoi] at hx
          dsimp only at hob
          obtain ⟨hb1', hb2'⟩ := hob
          have hsR : s < (sesAt i).length := by omega
          have he12 := hsl _ (List.getElem_mem hsR)
          have heR : e < (sesAt i)[s].length := by omega
          unfold stepO at hsc2
          dsimp only at hsc2
          rw [List.getD_eq_getElem?_getD, List.getElem?_eq_getElem hsR] at hsc2
          simp only [Option.getD_some] at hsc2
          obtain ⟨w4, hw4⟩ : ∃ x, wx.alloc (.cells #[.int .i64 (s : Int), .int .i64 (e : Int), .int .i64 y1, .int .i64 y2] 47) = x := ⟨_, rfl⟩
          have P4 := Pt.newA wx 47 #[.int .i64 (s : Int), .int .i64 (e : Int), .int .i64 y1, .int .i64 y2]
          rw [hw4] at P4
          have F4 : Fr [] wx w4 := by rw [← hw4]; exact (Fr.refl [] wx).alloc _
          obtain ⟨b4, hb4⟩ : ∃ x, wx.heap.size = x := ⟨_, rfl⟩
          rw [hb4] at P4
          obtain ⟨w5, hw5⟩ : ∃ x, w4.drew = x := ⟨_, rfl⟩
          have f5 : Fr [] w4 w5 := by rw [← hw5]; exact (Fr.refl [] w4).drew
          have F45 := F4.trans f5
          have hO5 := hO.fr F45 (by simp)
          obtain ⟨br, or, cr, bz, oz, cz, hrv, g1, g2, g3, g4, g5, g6, ⟨u1, g7⟩, ⟨u2, g8⟩, g9, g10, hO6, f6⟩ := hO5.put s e hsR heR (y1, y2)
          rw [← hsc2] at hO6
          obtain ⟨w6, hw6⟩ : ∃ x, (w5.setCell ⟨bz, oz + e * 2, none⟩ (.int .i64 y1)).setCell ⟨bz, oz + e * 2 + 1, none⟩ (.int .i64 y2) = x := ⟨_, rfl⟩
          dsimp only at hO6 f6
          rw [hw6] at hO6 f6
          injection hrv with ea eb ec
          subst ea ec
          have k5 := (f5.pt P4 (by simp)).cell
          have h15 := F45.pt h1 (by simp)
          have k1 := h15.cell
          have h16 := f6.pt h15 (by simp; omega)
          have l0' := hF.size
          have F6 : Fr [] w0 w6 := (hF.trans F45).step f6 (fun q hq => .inr (by simp at hq; have := P0.out.lt; omega))
          have hsI : (s : Int) < n2 := by omega
          rw [he12] at g2
          have heI : (e : Int) < 12 := by omega
          replace hO := Lib.hid hO; replace hF := Lib.hid hF; replace h1 := Lib.hid h1; replace hsc2 := Lib.hid hsc2; replace hoi := Lib.hid hoi; replace hsl := Lib.hid hsl; replace hs7 := Lib.hid hs7; replace he12 := Lib.hid he12; replace P4 := Lib.hid P4; replace F4 := Lib.hid F4; replace f5 := Lib.hid f5; replace F45 := Lib.hid F45; replace hO5 := Lib.hid hO5; replace hO6 := Lib.hid hO6; replace f6 := Lib.hid f6; replace h15 := Lib.hid h15; replace h16 := Lib.hid h16; replace F6 := Lib.hid F6; replace eb := Lib.hid eb; replace g3 := Lib.hid g3; replace g4 := Lib.hid g4; replace hw5 := Lib.hid hw5
          go_wp2_with fail
          go_still_tail 14, (by kernel_rfl)
          rw [show ({ heap := w4.heap, tape := w4.tape, drawn := w4.drawn + 1, os := w4.os, output := w4.output } : World) = w4.drew from rfl, hw5.out]
          repeat still_step
          first | refine wpStill_nil ?_ | skip
          go_wp2_with fail
          go_roundg (gk - 1)
          case measure => omega
          case rel => exact ⟨i + 1, by omega, by omega, by go_num, hO6.out, F6.out, h16.out⟩
        · as_aux_lemma =>
          have hltI : ¬ (i : Int) < 11 := by omega
          obtain rfl : i = 11 := by omega
          rw [hall.out] at hO
          have q0 := hF.pt P0.out (by simp)
          have k1 := h1.cell
          have c0 := q0.cell
          have z0 := q0.free
          have p7 := (((q0.set 0 (.int .i64 7)).set 1 (.int .i64 12)).set 2 (.int .i64 0)).set 3 (.slice o2 n2 c2)
          have f7 : Fr [b0] wx ((((wx.setCell ⟨b0, 0, none⟩ (.int .i64 7)).setCell ⟨b0, 1, none⟩ (.int .i64 12)).setCell ⟨b0, 2, none⟩ (.int .i64 0)).setCell ⟨b0, 3, none⟩ (.slice o2 n2 c2)) := ((((Fr.refl _ wx).setCell (by simp) _).setCell (by simp) _).setCell (by simp) _).setCell (by simp) _
          obtain ⟨w7, hw7⟩ : ∃ x, (((wx.setCell ⟨b0, 0, none⟩ (.int .i64 7)).setCell ⟨b0, 1, none⟩ (.int .i64 12)).setCell ⟨b0, 2, none⟩ (.int .i64 0)).setCell ⟨b0, 3, none⟩ (.slice o2 n2 c2) = x := ⟨_, rfl⟩
          rw [hw7] at p7 f7
          simp only [List.set_cons_zero, List.set_cons_succ] at p7
          have k7 := p7.cell
          have F7 : Fr [] w w7 := (F0.out.trans hF).step f7 (fun q hq => .inr (by simp at hq; omega))
          have GO : SeR w (.returned (.agg #[.int .i64 7, .int .i64 12, .int .i64 0, .slice o2 n2 c2])) w7 := ⟨_, rfl, hO.rinb.fr f7 (fun b _ hq => ⟨by simp; omega, by omega⟩), F7⟩
          replace hO := Lib.hid hO; replace hF := Lib.hid hF; replace h1 := Lib.hid h1; replace q0 := Lib.hid q0; replace p7 := Lib.hid p7; replace f7 := Lib.hid f7; replace F7 := Lib.hid F7; replace GO := Lib.hid GO
          go_wp2_with fail
          refine bodyPost_ret (v := .agg #[.int .i64 7, .int .i64 12, .int .i64 0, .slice o2 n2 c2]) (by simp [results, Try.results4, go_sem, k7]) rfl GO.out
end Go.Proofs.Ytkfkkglodjehpaa
