import Derived.Test.YtnggimkkjdipmaaTC1
import Derived.Test.YtnggimkkjdipmaaTC4
import Derived.Test.YtnggimkkjdipmaaTBo
namespace Go.Proofs.Ytnggimkkjdipmaa
open Go.RowKit
set_option linter.unusedVariables false
set_option linter.unusedSimpArgs false
/-! ### The passes of the reference's reached -/
/-- In the midst of a pass that began with R0: at state i, event j. -/
structure PaR (T : Tb) (R0 R : Nat → Bool) (i j : Nat) : Prop where
  so : SoR T R
  up : ∀ s, R0 s = true → R s = true
  done : ∀ s, s < i → CloR T R0 R s
  now : R0 i = true → ∀ e : Nat, e < j → 0 ≤ (T.at i e).1 → R (T.at i e).1.toNat = true
  keep : (∀ s : Nat, (s : Int) < T.st → CloR T R0 R0 s) → ∀ s, R s = true → R0 s = true
def cntR (n : Nat) (R : Nat → Bool) : Nat := (List.range n).countP R
theorem PaR.start {T : Tb} {R : Nat → Bool} (h : SoR T R) : PaR T R R 0 0 := ⟨h, fun _ h => h, (fun s hs => by omega), (fun _ e he => by omega), fun _ _ h => h⟩
theorem PaR.next {T : Tb} {R0 R : Nat → Bool} {i j : Nat} (h : PaR T R0 R i j) (hj : T.ev ≤ (j : Int) ∨ R i = false) : PaR T R0 R (i + 1) 0 := by
  refine ⟨h.so, h.up, fun s hs h0 e he hn => ?_, (fun _ e he => by omega), h.keep⟩
  by_cases hsi : s < i
  · exact h.done s hsi h0 e he hn
  · obtain rfl : s = i := by omega
    rcases hj with hj | hj
    · exact h.now h0 e (by omega) hn
    · have := h.up s h0; rw [hj] at this; cases this
theorem PaR.skip {T : Tb} {R0 R : Nat → Bool} {i j : Nat} (h : PaR T R0 R i j) (hn : (T.at i j).1 < 0) : PaR T R0 R i (j + 1) := by
  refine ⟨h.so, h.up, h.done, fun h0 e he hx => ?_, h.keep⟩
  by_cases hej : e < j
  · exact h.now h0 e hej hx
  · obtain rfl : e = j := by omega
    omega
theorem PaR.put {T : Tb} (hT : VT T) {R0 R : Nat → Bool} {i j : Nat} (h : PaR T R0 R i j) (hi : (i : Int) < T.st) (hj : (j : Int) < T.ev) (hR : R i = true) (hn : 0 ≤ (T.at i j).1) : PaR T R0 (fun s => if s = (T.at i j).1.toNat then true else R s) i (j + 1) := by
  have key : ∀ s, R s = true → (if s = (T.at i j).1.toNat then true else R s) = true := fun s hs => by split <;> simp_all
  refine ⟨⟨key _ h.so.1, fun s hs hc => ?_⟩, fun s hs => key s (h.up s hs), fun s hs h0 e he hx => key _ (h.done s hs h0 e he hx), fun h0 e he hx => ?_, fun hc s hs => ?_⟩
  · dsimp only at hc
    by_cases hsn : s = (T.at i j).1.toNat
    · have := (order_ok hT).clo _ (h.so.2 i hi hR) (j : Int) (by omega) hj hn
      rw [hsn, Int.toNat_of_nonneg hn]; exact this
    · rw [if_neg hsn] at hc
      exact h.so.2 s hs hc
  · by_cases hej : e < j
    · exact key _ (h.now h0 e hej hx)
    · obtain rfl : e = j := by omega
      rw [if_pos rfl]
  · skip
    by_cases hsn : s = (T.at i j).1.toNat
    · subst hsn; exact hc i hi (h.keep hc i hR) j hj hn
    · rw [if_neg hsn] at hs; exact h.keep hc s hs
theorem PaR.fin {T : Tb} {R0 R : Nat → Bool} {n : Nat} (h : PaR T R0 R n 0) : (∀ s, s < n → CloR T R R s) ∨ cntR n R0 < cntR n R := by
  by_cases hx : ∃ s, s < n ∧ R s = true ∧ R0 s = false
  · obtain ⟨s, h1, h2, h3⟩ := hx
    exact .inr (countP_less _ _ _ s (fun y _ hy => h.up y hy) (List.mem_range.mpr h1) h2 h3)
  · refine .inl fun s hs hR e he hn => ?_
    have h0 : R0 s = true := by
      cases hc : R0 s with
      | true => rfl
      | false => exact absurd ⟨s, hs, hR, hc⟩ hx
    exact h.done s hs h0 e he hn
/-- Once closed, a pass leaves it closed: what it sets is set. -/
theorem PaR.still {T : Tb} {R0 R : Nat → Bool} {i j : Nat} (h : PaR T R0 R i j) (hc : ∀ s : Nat, (s : Int) < T.st → CloR T R0 R0 s) : ∀ s : Nat, (s : Int) < T.st → CloR T R R s := fun s hs hR e he hn => h.up _ (hc s hs (h.keep hc s hR) e he hn)
theorem cntR_le (n : Nat) (R : Nat → Bool) : cntR n R ≤ n := by
  have := List.countP_le_length (p := R) (l := List.range n)
  simpa [cntR] using this
end Go.Proofs.Ytnggimkkjdipmaa
namespace Go.Proofs.Ytnggimkkjdipmaa
open Go.RowKit
set_option linter.unusedVariables false
set_option linter.unusedSimpArgs false
set_option maxHeartbeats 16000000
set_option maxRecDepth 100000
/-- What reached hands back. -/
def RcR (T : Tb) (w : World) (e : Ending) (w' : World) : Prop := ∃ b R, e = .returned (.slice (some ⟨b, 0, none⟩) T.st.toNat T.st.toNat) ∧ Pt w' b 4 (bools T.st.toNat R) ∧ w.heap.size ≤ b ∧ (∀ s : Nat, (s : Int) < T.st → (R s = true ↔ (s : Int) ∈ orderT T)) ∧ Fr [] w w'
theorem rreached_any (T : Tb) (v : Value) (w : World) (hT : TIn w v T) (hV : VT T) :
    Calls Try.prog 69 #[v] w (RcR T w) := by
  obtain ⟨r, rfl, hR⟩ := hT
  rw [show T.val r = .agg #[.int .i64 T.st, .int .i64 T.ev, .int .i64 T.sr, r] from rfl]
  obtain ⟨w1, hw1⟩ : ∃ x, w.alloc (.cells #[.int .i64 T.st, .int .i64 T.ev, .int .i64 T.sr, r] RTab) = x := ⟨_, rfl⟩
  have P1 := Pt.newA w RTab #[.int .i64 T.st, .int .i64 T.ev, .int .i64 T.sr, r]
  rw [hw1] at P1
  have F1 : Fr [] w w1 := by rw [← hw1]; exact (Fr.refl [] w).alloc _
  obtain ⟨b1, hb1⟩ : ∃ x, w.heap.size = x := ⟨_, rfl⟩
  rw [hb1] at P1
  have hst := hV.st; have hsr := hV.sr; have hev := hV.ev; have hrs := hV.rows
  obtain ⟨n, hn⟩ : ∃ n : Nat, T.st.toNat = n := ⟨_, rfl⟩
  have hnI : T.st = (n : Int) := by omega
  obtain ⟨s0, hs0⟩ : ∃ s : Nat, T.sr.toNat = s := ⟨_, rfl⟩
  have hsI : T.sr = (s0 : Int) := by omega
  have hmk := make_bools T.st w1 (by omega) (by omega)
  rw [hn, bools_zero] at hmk
  obtain ⟨w2, hw2⟩ : ∃ x, w1.alloc (.cells (bools n fun _ => false).toArray 4) = x := ⟨_, rfl⟩
  have P2 := Pt.new w1 4 (bools n fun _ => false)
  rw [hw2] at hmk P2
  have F2 : Fr [] w1 w2 := by rw [← hw2]; exact (Fr.refl [] w1).alloc _
  have Q1 := F2.pt P1 (by simp)
  have FA := F1.trans F2
  have l1 := P1.lt
  obtain ⟨b2, hb2⟩ : ∃ x, w1.heap.size = x := ⟨_, rfl⟩
  rw [hb2] at hmk P2 l1
  have lwb : w.heap.size ≤ b2 := by have := F1.size; omega
  have k1 := P1.cell
  have q1 := Q1.cell
  have P3 := (P2.set s0 (.bool true))
  rw [bools_set] at P3
  obtain ⟨w3, hw3⟩ : ∃ x, w2.setCell ⟨b2, s0, none⟩ (.bool true) = x := ⟨_, rfl⟩
  rw [hw3] at P3
  have F3 : Fr [b2] w2 w3 := by rw [← hw3]; exact (Fr.refl _ w2).setCell (.inl (by simp)) _
  have FB := FA.step F3 (fun z hz => .inr (by simp at hz; have := F1.size; omega))
  have Q3 := F3.pt Q1 (by simp; omega)
  have hsn : s0 < n := by omega
  have hsnI : (s0 : Int) < (n : Int) := by omega
  have c2 : w2.cell? ⟨b2, s0, none⟩ = some (.bool false) := by rw [P2.cell, bools_get _ _ _ hsn]
  have z2 := P2.free s0
  have hO := order_ok hV
  have hS0 : SoR T (fun j => if j = s0 then true else false) := by
    refine ⟨by rw [hs0]; simp, fun s hs hc => ?_⟩
    have : s = s0 := by by_cases e : s = s0; exact e; simp [e] at hc
    subst this
    obtain ⟨t, ht⟩ := hO.hd
    rw [ht, hsI]; simp
  obtain ⟨oA, capA, rfl, hlA⟩ := hR
  have hs0' := hsI
  replace P1 := Lib.hid P1; replace P2 := Lib.hid P2; replace P3 := Lib.hid P3; replace F1 := Lib.hid F1; replace F2 := Lib.hid F2; replace F3 := Lib.hid F3; replace FA := Lib.hid FA; replace FB := Lib.hid FB; replace Q1 := Lib.hid Q1; replace Q3 := Lib.hid Q3; replace hV := Lib.hid hV; replace hO := Lib.hid hO; replace hS0 := Lib.hid hS0; replace hlA := Lib.hid hlA; replace hn := Lib.hid hn; replace hnI := Lib.hid hnI; replace hs0 := Lib.hid hs0; replace hs0' := Lib.hid hs0'; replace hrs := Lib.hid hrs
  have hn30 : n ≤ 30 := by have := hnI.out; omega
  rw [hsI] at k1 q1 hw1 ⊢
  go_enter Try.func69, Try.ntmps69
  go_wp2_with fail
  clear k1 q1 hw1 hw2 hw3 hmk c2 z2 hb1 hb2
  have hc0 : (∀ s : Nat, (s : Int) < T.st → CloR T (fun j => if j = s0 then true else false) (fun j => if j = s0 then true else false) s) ∨ 1 ≤ cntR n (fun j => if j = s0 then true else false) := .inr (List.countP_pos_iff.mpr ⟨s0, List.mem_range.mpr hsn, by simp⟩)
  replace hc0 := Lib.hid hc0
  go_loopg [4] (n + 1) (fun k v4 wr => ∃ (i : Nat) (R : Nat → Bool), i ≤ n ∧ k + i = n + 1 ∧ v4 = .int .i64 i ∧ SoR T R ∧ ((∀ s : Nat, (s : Int) < T.st → CloR T R R s) ∨ i + 1 ≤ cntR n R) ∧ Pt wr b2 4 (bools n R) ∧ Pt wr b1 RTab [.int .i64 T.st, .int .i64 T.ev, .int .i64 s0, .slice oA T.rows.length capA] ∧ Fr [] w wr)
  case atStart => exact ⟨0, _, by omega, by omega, rfl, hS0.out, hc0.out, P3.out, by have := Q3.out; rw [hs0'.out] at this; exact this, FB.out⟩
  case round =>
    obtain ⟨i, R, hi, hk, rfl, hS, hC, hB, hA, hF⟩ := hrel
    obtain ⟨wi, rfl⟩ : ∃ x : World, x = wr := ⟨_, rfl⟩
    obtain ⟨gi, rfl⟩ : ∃ g : Nat, g = gk := ⟨_, rfl⟩
    have k1 := hA.cell
    by_cases hlt : i < n
    · have hltI : (i : Int) < T.st := by rw [hnI.out]; omega
      have hP := PaR.start hS
      replace hP := Lib.hid hP; replace hS := Lib.hid hS; replace hC := Lib.hid hC; replace hA := Lib.hid hA; replace hB := Lib.hid hB; replace hF := Lib.hid hF
      go_wp2_with fail
      clear k1
      go_loopg [5] (n + 1) (fun k v5 wr => ∃ (x : Nat) (R' : Nat → Bool), x ≤ n ∧ k + x = n + 1 ∧ v5 = .int .i64 x ∧ PaR T R R' x 0 ∧ Pt wr b2 4 (bools n R') ∧ Pt wr b1 RTab [.int .i64 T.st, .int .i64 T.ev, .int .i64 s0, .slice oA T.rows.length capA] ∧ Fr [] w wr)
      case atStart => exact ⟨0, _, by omega, by omega, rfl, hP.out, hB.out, hA.out, hF.out⟩
      clear hP hB hA hF
      case round =>
        obtain ⟨x, R', hx, hk2, rfl, hP, hB, hA, hF⟩ := hrel
        obtain ⟨wx, rfl⟩ : ∃ y : World, y = wr := ⟨_, rfl⟩
        obtain ⟨gx, rfl⟩ : ∃ g : Nat, g = gk := ⟨_, rfl⟩
        have k1 := hA.cell
        by_cases hxl : x < n
        · have hxlI : (x : Int) < T.st := by rw [hnI.out]; omega
          replace hP := Lib.hid hP; replace hA := Lib.hid hA; replace hB := Lib.hid hB; replace hF := Lib.hid hF
          go_wp2_with fail
          clear k1
          go_loopg [6] 20 (fun k v6 wr => ∃ (j : Nat) (R' : Nat → Bool), (j : Int) ≤ T.ev ∧ k + j = 20 ∧ v6 = .int .i64 j ∧ PaR T R R' x j ∧ Pt wr b2 4 (bools n R') ∧ Pt wr b1 RTab [.int .i64 T.st, .int .i64 T.ev, .int .i64 s0, .slice oA T.rows.length capA] ∧ Fr [] w wr)
          case atStart => exact ⟨0, _, by omega, by omega, rfl, hP.out, hB.out, hA.out, hF.out⟩
          clear hP hB hA hF
          case round =>
            obtain ⟨j, R', hj, hk3, rfl, hP, hB, hA, hF⟩ := hrel
            obtain ⟨wj, rfl⟩ : ∃ y : World, y = wr := ⟨_, rfl⟩
            have k1 := hA.cell
            have hb := hB.cell x
            rw [bools_get _ _ _ hxl] at hb
            have hxn : (x : Int) < (n : Int) := by omega
            by_cases hjl : (j : Int) < T.ev
            · cases hr : R' x
              · as_aux_lemma =>
                rw [hr] at hb
                have hP2 := hP.next (.inr hr)
                replace hP2 := Lib.hid hP2; replace hr := Lib.hid hr; replace hP := Lib.hid hP; replace hA := Lib.hid hA; replace hB := Lib.hid hB; replace hF := Lib.hid hF
                go_wp2_with fail
                go_roundg (gx - 1)
                case measure => omega
                case rel => exact ⟨x + 1, _, by omega, by omega, by go_num, hP2.out, hB.out, hA.out, hF.out⟩
              · rw [hr] at hb
                have hsr2 : x < T.rows.length := by have := hrs.out; have := hnI.out; omega
                have hsr2I : (x : Int) < T.rows.length := by omega
                obtain ⟨BB, off, u, rfl, hBB, hcB, o2, cap2, rfl, hu⟩ := hlA.out x hsr2
                have hrow := hV.out.row _ (List.getElem_mem hsr2)
                have hlj : j < T.rows[x].length := by omega
                have hljI : (j : Int) < T.rows[x].length := by omega
                obtain ⟨B2, off2, rfl, hB2, a1, a2⟩ := hu j hlj
                obtain ⟨_, _, hat⟩ := hV.out.get (s := (x : Int)) (e := (j : Int)) (by omega) hxlI (by omega) hjl
                have hat2 := hV.out.atOk (s := (x : Int)) (e := (j : Int)) (by omega) hxlI (by omega) hjl
                simp only [Int.toNat_natCast] at hat
                obtain ⟨rl, hrl⟩ : ∃ q, T.rows[x].length = q := ⟨_, rfl⟩
                obtain ⟨nx, hnx⟩ : ∃ q, (T.rows[x][j]).1 = q := ⟨_, rfl⟩
                have c1 := hF.cell (p := ⟨BB, off + x, none⟩) hBB (by simp)
                rw [hcB, hrl] at c1
                have c3 := hF.cell (p := ⟨B2, off2 + j * 2, none⟩) hB2 (by simp)
                rw [a1, hnx] at c3
                have hatn : (T.at (x : Int) (j : Int)).1 = nx := by rw [hat, hnx]
                rw [hatn] at hat2
                rw [hrl] at hljI
                have hz := hB.free
                obtain ⟨r1, r2, _⟩ := hat2
                clear a1 a2 hcB hu hat hnx hrow
                by_cases hneg : nx < 0
                · as_aux_lemma =>
                  have hP2 := hP.skip (by rw [hatn]; exact hneg)
                  replace hP2 := Lib.hid hP2; replace hr := Lib.hid hr; replace hP := Lib.hid hP; replace hA := Lib.hid hA; replace hB := Lib.hid hB; replace hF := Lib.hid hF; replace hatn := Lib.hid hatn; replace hrl := Lib.hid hrl
                  go_wp2_with fail
                  go_roundg (gk - 1)
                  case measure => omega
                  case rel => exact ⟨j + 1, _, by omega, by omega, by go_num, hP2.out, hB.out, hA.out, hF.out⟩
                · as_aux_lemma =>
                  have hP2 := hP.put hV.out hxlI hjl hr (by rw [hatn]; omega)
                  rw [hatn] at hP2
                  have hge : 0 ≤ nx := by omega
                  have hnn : nx < (n : Int) := by have := hnI.out; omega
                  have hnN : nx.toNat < n := by omega
                  have hb2 := hB.cell nx.toNat
                  rw [bools_get _ _ _ hnN] at hb2
                  have hb3 := hz nx.toNat
                  have P9 := hB.set nx.toNat (.bool true)
                  rw [bools_set] at P9
                  obtain ⟨w9, hw9⟩ : ∃ y, wj.setCell ⟨b2, nx.toNat, none⟩ (.bool true) = y := ⟨_, rfl⟩
                  rw [hw9] at P9
                  have f9 : Fr [b2] wj w9 := by rw [← hw9]; exact (Fr.refl _ wj).setCell (.inl (by simp)) _
                  have A9 := f9.pt hA (by simp; omega)
                  have F9 := hF.step f9 (fun z hz => .inr (by simp at hz; omega))
                  clear hz
                  replace hP2 := Lib.hid hP2; replace hr := Lib.hid hr; replace hP := Lib.hid hP; replace hA := Lib.hid hA; replace hB := Lib.hid hB; replace hF := Lib.hid hF; replace hatn := Lib.hid hatn; replace hrl := Lib.hid hrl; replace P9 := Lib.hid P9; replace f9 := Lib.hid f9; replace A9 := Lib.hid A9; replace F9 := Lib.hid F9
                  go_wp2_with fail
                  go_roundg (gk - 1)
                  case measure => omega
                  case rel => exact ⟨j + 1, _, by omega, by omega, by go_num, hP2.out, P9.out, A9.out, F9.out⟩
            · as_aux_lemma =>
              have hP2 := hP.next (.inl (by omega))
              clear hb
              replace hP2 := Lib.hid hP2; replace hP := Lib.hid hP; replace hA := Lib.hid hA; replace hB := Lib.hid hB; replace hF := Lib.hid hF
              go_wp2_with fail
              go_roundg (gx - 1)
              case measure => omega
              case rel => exact ⟨x + 1, _, by omega, by omega, by go_num, hP2.out, hB.out, hA.out, hF.out⟩
        · as_aux_lemma =>
          have hxlI : ¬ (x : Int) < T.st := by rw [hnI.out]; omega
          obtain rfl : x = n := by omega
          have hnx : (∀ s : Nat, (s : Int) < T.st → CloR T R' R' s) ∨ i + 1 + 1 ≤ cntR x R' := by
            rcases hC.out with h | h
            · exact .inl (hP.still h)
            · rcases hP.fin with h2 | h2
              · exact .inl fun s hs => h2 s (by have := hnI.out; omega)
              · exact .inr (by omega)
          have hSo := hP.so
          replace hnx := Lib.hid hnx; replace hSo := Lib.hid hSo; replace hP := Lib.hid hP; replace hA := Lib.hid hA; replace hB := Lib.hid hB; replace hF := Lib.hid hF
          go_wp2_with fail
          go_roundg (gi - 1)
          case measure => omega
          case rel => exact ⟨i + 1, _, by omega, by omega, by go_num, hSo.out, hnx.out, hB.out, hA.out, hF.out⟩
    · as_aux_lemma =>
      have hltI : ¬ (i : Int) < T.st := by rw [hnI.out]; omega
      have hcl : ∀ s : Nat, (s : Int) < T.st → CloR T R R s := by
        rcases hC with h | h
        · exact h
        · have := cntR_le n R; omega
      have hri := reach_iff hV.out hS hcl
      have ND : RcR T w (.returned (.slice (some ⟨b2, 0, none⟩) n n)) wi := ⟨b2, R, by rw [hn.out], by rw [hn.out]; exact hB, lwb, hri, hF⟩
      replace ND := Lib.hid ND; replace hri := Lib.hid hri; replace hcl := Lib.hid hcl; replace hS := Lib.hid hS; replace hC := Lib.hid hC; replace hA := Lib.hid hA; replace hB := Lib.hid hB; replace hF := Lib.hid hF
      go_wp2_with fail
      go_ret
      exact ND.out
end Go.Proofs.Ytnggimkkjdipmaa
