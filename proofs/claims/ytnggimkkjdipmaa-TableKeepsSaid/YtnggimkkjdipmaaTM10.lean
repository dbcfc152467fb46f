import Derived.Test.YtnggimkkjdipmaaTM9
import Derived.Test.YtnggimkkjdipmaaTS4
import Derived.Test.YtnggimkkjdipmaaTC10
namespace Go.Proofs.Ytnggimkkjdipmaa
open Go.RowKit
set_option linter.unusedVariables false
set_option linter.unusedSimpArgs false
set_option maxHeartbeats 16000000
set_option maxRecDepth 100000
/-- What the reference's Mutant hands back. -/
def RMuR (X : Tb) (s : Int) (w : World) (e : Ending) (w' : World) : Prop := ∃ rv, e = .returned (.tuple #[.agg #[.int .i64 X.st, .int .i64 X.ev, .int .i64 X.sr, rv], .int .i64 s]) ∧ RIn w' rv X.rows ∧ Fr [] w w'
theorem RIn.none (w : World) : RIn w (.slice Option.none 0 0) [] := ⟨_, 0, rfl, fun i hi => absurd hi (Nat.not_lt_zero _)⟩
theorem rMutant_any (T : Tb) (v : Value) (n : Int) (w : World) (hT : TIn w v T) :
    Calls Try.prog 39 #[v, .int .i64 n] w (RMuR (mutantF T n).1 (mutantF T n).2 w) := by
  obtain ⟨r, rfl, hR⟩ := hT
  rw [show T.val r = .agg #[.int .i64 T.st, .int .i64 T.ev, .int .i64 T.sr, r] from rfl]
  have VA : ∀ W, Fr [] w W → Calls Try.prog 20 #[.agg #[.int .i64 T.st, .int .i64 T.ev, .int .i64 T.sr, r]] W fun e w' => e = .returned (.bool (validT T)) ∧ Fr [] W w' := fun W f => rvalid_any T _ W ⟨r, rfl, hR.fr f⟩
  obtain ⟨⟨X, z⟩, hX⟩ : ∃ x, mutantF T n = x := ⟨_, rfl⟩
  rw [hX]
  dsimp only
  obtain ⟨w1, hw1⟩ : ∃ x, w.alloc (.cells #[.int .i64 T.st, .int .i64 T.ev, .int .i64 T.sr, r] RTab) = x := ⟨_, rfl⟩
  have P1 := Pt.newA w RTab #[.int .i64 T.st, .int .i64 T.ev, .int .i64 T.sr, r]
  rw [hw1] at P1
  have F1 : Fr [] w w1 := by rw [← hw1]; exact (Fr.refl [] w).alloc _
  obtain ⟨b1, hb1⟩ : ∃ x, w.heap.size = x := ⟨_, rfl⟩
  rw [hb1] at P1
  obtain ⟨w2, hw2⟩ : ∃ x, w1.alloc (.cells #[.int .i64 0, .int .i64 0, .int .i64 0, .slice none 0 0] RTab) = x := ⟨_, rfl⟩
  have P3 := Pt.newA w1 RTab #[.int .i64 0, .int .i64 0, .int .i64 0, .slice none 0 0]
  rw [hw2] at P3
  have F3 : Fr [] w1 w2 := by rw [← hw2]; exact (Fr.refl [] w1).alloc _
  obtain ⟨b3, hb3⟩ : ∃ x, w1.heap.size = x := ⟨_, rfl⟩
  rw [hb3] at P3
  have l1 := P1.lt
  have lt13 : b1 < b3 := by omega
  have wb1 : w.heap.size ≤ b1 := by omega
  have Q1 := F3.pt P1 (by simp)
  have FA := F1.trans F3
  have k1 := Q1.cell
  replace P1 := Lib.hid P1; replace P3 := Lib.hid P3; replace Q1 := Lib.hid Q1; replace F1 := Lib.hid F1; replace F3 := Lib.hid F3; replace FA := Lib.hid FA; replace VA := Lib.hid VA; replace hR := Lib.hid hR; replace hX := Lib.hid hX
  go_enter Try.func39, Try.ntmps39
  go_wp2_with fail
  refine (VA.out _ FA.out).mono ?_
  rintro e w4 ⟨rfl, f4⟩
  have F4 := FA.out.trans f4
  have p1 := f4.pt Q1.out (by simp)
  have p3 := f4.pt P3.out (by simp)
  have l4 := p3.lt
  clear k1 hw1 hw2 hb1 hb3
  cases hv : validT T
  · have hx := hX.out
    unfold mutantF at hx
    rw [hv] at hx
    obtain ⟨rfl, rfl⟩ : Tb.none = X ∧ 1 = z := by simpa using hx
    clear hx
    have c3 := p3.cell
    have z3 := p3.free
    have q3 := (((p3.set 0 (.int .i64 0)).set 1 (.int .i64 0)).set 2 (.int .i64 0)).set 3 (.slice none 0 0)
    have f5 : Fr [b3] w4 ((((w4.setCell ⟨b3, 0, none⟩ (.int .i64 0)).setCell ⟨b3, 1, none⟩ (.int .i64 0)).setCell ⟨b3, 2, none⟩ (.int .i64 0)).setCell ⟨b3, 3, none⟩ (.slice none 0 0)) := ((((Fr.refl _ w4).setCell (by simp) _).setCell (by simp) _).setCell (by simp) _).setCell (by simp) _
    obtain ⟨w5, hw5⟩ : ∃ x, (((w4.setCell ⟨b3, 0, none⟩ (.int .i64 0)).setCell ⟨b3, 1, none⟩ (.int .i64 0)).setCell ⟨b3, 2, none⟩ (.int .i64 0)).setCell ⟨b3, 3, none⟩ (.slice none 0 0) = x := ⟨_, rfl⟩
    rw [hw5] at q3 f5
    simp only [List.set_cons_zero, List.set_cons_succ] at q3
    have k3 := q3.cell
    have GO : RMuR Tb.none 1 w (.returned (.tuple #[.agg #[.int .i64 0, .int .i64 0, .int .i64 0, .slice none 0 0], .int .i64 1])) w5 := ⟨_, rfl, RIn.none _, F4.step f5 (fun q hq => .inr (by simp at hq; omega))⟩
    replace hv := Lib.hid hv; replace F4 := Lib.hid F4; replace f4 := Lib.hid f4; replace p1 := Lib.hid p1; replace p3 := Lib.hid p3; replace q3 := Lib.hid q3; replace f5 := Lib.hid f5; replace GO := Lib.hid GO
    go_wp2_with fail
    refine bodyPost_ret (v := .tuple #[.agg #[.int .i64 0, .int .i64 0, .int .i64 0, .slice none 0 0], .int .i64 1]) (by simp [results, Try.results39, go_sem, k3]) rfl GO.out
  · have hV := (validT_iff T).mp hv
    have hx := hX.out
    unfold mutantF at hx
    rw [hv, if_pos rfl] at hx
    have RM := rmutants_any T _ w4 ⟨r, rfl, hR.out.fr F4⟩ hV
    have hlen := mutL_len hV
    have c1 := p1.cell
    replace hv := Lib.hid hv; replace hV := Lib.hid hV; replace hx := Lib.hid hx; replace F4 := Lib.hid F4; replace f4 := Lib.hid f4; replace p1 := Lib.hid p1; replace p3 := Lib.hid p3; replace RM := Lib.hid RM
    go_wp2_with fail
    refine RM.out.mono ?_
    rintro e w7 ⟨lv, L, bo, rfl, hL, hTs, f7⟩
    have hN : L.length = (mutL T).length := by have := congrArg List.length hL; simpa using this
    have F7 := F4.out.trans f7
    have g3 := f7.pt p3.out (by simp)
    have c3 := g3.cell
    have z3 := g3.free
    have l7 := g3.lt
    obtain ⟨o, cap, hlv⟩ := hTs.row.len
    obtain ⟨N, hNN⟩ : ∃ y, L.length = y := ⟨_, rfl⟩
    rw [hNN] at hlv
    subst hlv
    clear c1
    by_cases hin : 0 ≤ n ∧ n < N
    · obtain ⟨h0, h1⟩ := hin
      obtain ⟨k, rfl⟩ : ∃ k : Nat, n = (k : Int) := ⟨n.toNat, by omega⟩
      have hkL : k < L.length := by omega
      have hkM : k < (mutL T).length := by omega
      have hx' := hx.out
      rw [if_pos h0, Int.toNat_natCast, List.getElem?_eq_getElem hkM] at hx'
      obtain ⟨rfl, rfl⟩ : T.chg (mutL T)[k] = X ∧ 0 = z := by simpa using hx'
      have hLk : L[k].1 = T.chg (mutL T)[k] := by
        have := congrArg (·[k]?) hL
        simp [hkL, hkM] at this
        exact this
      have hRk := hTs.each L[k] (List.getElem_mem hkL)
      have hget := tbcells_get L k hkL
      rw [hLk] at hRk hget
      obtain ⟨⟨LT, rv⟩, hLp⟩ : ∃ p, L[k] = p := ⟨_, rfl⟩
      rw [hLp] at hRk hget
      dsimp only at hRk hget
      obtain ⟨b, off, hob, hbl, hcl⟩ : ∃ b off, o = some ⟨b, off, none⟩ ∧ b < w7.heap.size ∧ ∀ d, d < 4 → w7.cell? ⟨b, off + (k * 4 + d), none⟩ = (tbcells L)[k * 4 + d]? := by
        rcases hTs.row with ⟨_, h2, _⟩ | ⟨b, off, c, _, e, h3, h4, _, _, h7⟩
        · omega
        · cases e
          exact ⟨b, off, rfl, h4, fun d hd => h7 _ (by omega)⟩
      subst hob
      have e0 := hcl 0 (by omega)
      have e1 := hcl 1 (by omega)
      have e2 := hcl 2 (by omega)
      have e3 := hcl 3 (by omega)
      rw [Nat.add_zero, hget.1] at e0
      rw [hget.2.1, ← Nat.add_assoc] at e1
      rw [hget.2.2.1, ← Nat.add_assoc] at e2
      rw [hget.2.2.2, ← Nat.add_assoc] at e3
      obtain ⟨orv, nrv, crv, hrv⟩ := hRk.shape
      subst hrv
      have hst3 : (T.chg (mutL T)[k]).st = T.st ∧ (T.chg (mutL T)[k]).ev = T.ev ∧ (T.chg (mutL T)[k]).sr = T.sr := ⟨rfl, rfl, rfl⟩
      obtain ⟨X, hXX⟩ : ∃ y, T.chg (mutL T)[k] = y := ⟨_, rfl⟩
      rw [hXX] at e0 e1 e2 hRk ⊢
      clear hx'
      have q3 := (((g3.set 0 (.int .i64 X.st)).set 1 (.int .i64 X.ev)).set 2 (.int .i64 X.sr)).set 3 (.slice orv nrv crv)
      have f8 : Fr [b3] w7 ((((w7.setCell ⟨b3, 0, none⟩ (.int .i64 X.st)).setCell ⟨b3, 1, none⟩ (.int .i64 X.ev)).setCell ⟨b3, 2, none⟩ (.int .i64 X.sr)).setCell ⟨b3, 3, none⟩ (.slice orv nrv crv)) := ((((Fr.refl _ w7).setCell (by simp) _).setCell (by simp) _).setCell (by simp) _).setCell (by simp) _
      obtain ⟨w8, hw8⟩ : ∃ x, (((w7.setCell ⟨b3, 0, none⟩ (.int .i64 X.st)).setCell ⟨b3, 1, none⟩ (.int .i64 X.ev)).setCell ⟨b3, 2, none⟩ (.int .i64 X.sr)).setCell ⟨b3, 3, none⟩ (.slice orv nrv crv) = x := ⟨_, rfl⟩
      rw [hw8] at q3 f8
      simp only [List.set_cons_zero, List.set_cons_succ] at q3
      have k3 := q3.cell
      have hR8 := hRk.fr f8 (q' := fun _ => True) (fun b _ hq => ⟨fun hm => by simp at hm; have := hq.1; omega, trivial⟩)
      have GO : RMuR X 0 w (.returned (.tuple #[.agg #[.int .i64 X.st, .int .i64 X.ev, .int .i64 X.sr, .slice orv nrv crv], .int .i64 0])) w8 := ⟨_, rfl, hR8.rin, F7.step f8 (fun q hq => .inr (by simp at hq; omega))⟩
      have hkN : (k : Int) < (N : Int) := h1
      replace hL := Lib.hid hL; replace hTs := Lib.hid hTs; replace f7 := Lib.hid f7; replace hN := Lib.hid hN; replace F7 := Lib.hid F7; replace g3 := Lib.hid g3; replace hNN := Lib.hid hNN; replace hLk := Lib.hid hLk; replace hRk := Lib.hid hRk; replace hget := Lib.hid hget; replace hLp := Lib.hid hLp; replace hcl := Lib.hid hcl; replace hst3 := Lib.hid hst3; replace hXX := Lib.hid hXX; replace q3 := Lib.hid q3; replace f8 := Lib.hid f8; replace hR8 := Lib.hid hR8; replace GO := Lib.hid GO
      go_wp2_with fail
      refine bodyPost_ret (v := .tuple #[.agg #[.int .i64 X.st, .int .i64 X.ev, .int .i64 X.sr, .slice orv nrv crv], .int .i64 0]) (by simp [results, Try.results39, go_sem, k3]) rfl (by rw [hXX.out]; exact GO.out)
    · have hXn : Tb.none = X ∧ 3 = z := by
        have hx' := hx.out
        by_cases h0 : 0 ≤ n
        · rw [if_pos h0, List.getElem?_eq_none (by omega)] at hx'
          simpa using hx'
        · rw [if_neg h0] at hx'
          simpa using hx'
      obtain ⟨rfl, rfl⟩ := hXn
      have q3 := (((g3.set 0 (.int .i64 0)).set 1 (.int .i64 0)).set 2 (.int .i64 0)).set 3 (.slice none 0 0)
      have f8 : Fr [b3] w7 ((((w7.setCell ⟨b3, 0, none⟩ (.int .i64 0)).setCell ⟨b3, 1, none⟩ (.int .i64 0)).setCell ⟨b3, 2, none⟩ (.int .i64 0)).setCell ⟨b3, 3, none⟩ (.slice none 0 0)) := ((((Fr.refl _ w7).setCell (by simp) _).setCell (by simp) _).setCell (by simp) _).setCell (by simp) _
      obtain ⟨w8, hw8⟩ : ∃ x, (((w7.setCell ⟨b3, 0, none⟩ (.int .i64 0)).setCell ⟨b3, 1, none⟩ (.int .i64 0)).setCell ⟨b3, 2, none⟩ (.int .i64 0)).setCell ⟨b3, 3, none⟩ (.slice none 0 0) = x := ⟨_, rfl⟩
      rw [hw8] at q3 f8
      simp only [List.set_cons_zero, List.set_cons_succ] at q3
      have k3 := q3.cell
      have GO : RMuR Tb.none 3 w (.returned (.tuple #[.agg #[.int .i64 0, .int .i64 0, .int .i64 0, .slice none 0 0], .int .i64 3])) w8 := ⟨_, rfl, RIn.none _, F7.step f8 (fun q hq => .inr (by simp at hq; omega))⟩
      have hN' : N ≤ 11160 := by omega
      replace hL := Lib.hid hL; replace hTs := Lib.hid hTs; replace f7 := Lib.hid f7; replace hN := Lib.hid hN; replace F7 := Lib.hid F7; replace g3 := Lib.hid g3; replace hNN := Lib.hid hNN; replace q3 := Lib.hid q3; replace f8 := Lib.hid f8; replace GO := Lib.hid GO
      by_cases h0 : n < 0
      · go_wp2_with fail
        refine bodyPost_ret (v := .tuple #[.agg #[.int .i64 0, .int .i64 0, .int .i64 0, .slice none 0 0], .int .i64 3]) (by simp [results, Try.results39, go_sem, k3]) rfl GO.out
      · have hge : (N : Int) ≤ n := by omega
        clear hin
        go_wp2_with fail
        refine bodyPost_ret (v := .tuple #[.agg #[.int .i64 0, .int .i64 0, .int .i64 0, .slice none 0 0], .int .i64 3]) (by simp [results, Try.results39, go_sem, k3]) rfl GO.out
theorem rsame_none (va vb : Value) (w : World) (hA : TIn w va Tb.none) (hB : TIn w vb Tb.none) :
    Calls Try.prog 32 #[va, vb] w fun e w' => e = .returned (.bool true) ∧ Fr [] w w' := by
  obtain ⟨ra, rfl, oA, cA, rfl, hlA⟩ := hA
  obtain ⟨rb, rfl, oB, cB, rfl, hlB⟩ := hB
  rw [show Tb.none.val (.slice oA Tb.none.rows.length cA) = .agg #[.int .i64 0, .int .i64 0, .int .i64 0, .slice oA 0 cA] from rfl, show Tb.none.val (.slice oB Tb.none.rows.length cB) = .agg #[.int .i64 0, .int .i64 0, .int .i64 0, .slice oB 0 cB] from rfl]
  obtain ⟨w1, hw1⟩ : ∃ x, w.alloc (.cells #[.int .i64 0, .int .i64 0, .int .i64 0, .slice oA 0 cA] RTab) = x := ⟨_, rfl⟩
  have P1 := Pt.newA w RTab #[.int .i64 0, .int .i64 0, .int .i64 0, .slice oA 0 cA]
  rw [hw1] at P1
  have F1 : Fr [] w w1 := by rw [← hw1]; exact (Fr.refl [] w).alloc _
  obtain ⟨b1, hb1⟩ : ∃ x, w.heap.size = x := ⟨_, rfl⟩
  rw [hb1] at P1
  obtain ⟨w2, hw2⟩ : ∃ x, w1.alloc (.cells #[.int .i64 0, .int .i64 0, .int .i64 0, .slice oB 0 cB] RTab) = x := ⟨_, rfl⟩
  have P2 := Pt.newA w1 RTab #[.int .i64 0, .int .i64 0, .int .i64 0, .slice oB 0 cB]
  rw [hw2] at P2
  have F2 : Fr [] w1 w2 := by rw [← hw2]; exact (Fr.refl [] w1).alloc _
  obtain ⟨b2, hb2⟩ : ∃ x, w1.heap.size = x := ⟨_, rfl⟩
  rw [hb2] at P2
  have Q1 := F2.pt P1 (by simp)
  have FA := F1.trans F2
  have k1 := Q1.cell
  have k2 := P2.cell
  replace P1 := Lib.hid P1; replace P2 := Lib.hid P2; replace Q1 := Lib.hid Q1; replace F1 := Lib.hid F1; replace F2 := Lib.hid F2; replace FA := Lib.hid FA; replace hlA := Lib.hid hlA; replace hlB := Lib.hid hlB
  go_enter Try.func32, Try.ntmps32
  go_wp2_with fail
  clear k1 k2 hw1 hw2 hb1 hb2
  go_loopg [5] 1 (fun k v5 wr => k = 1 ∧ v5 = .int .i64 0 ∧ wr = w2)
  case atStart => exact ⟨rfl, rfl, rfl⟩
  case round =>
    obtain ⟨rfl, rfl, rfl⟩ := hrel
    have k1 := Q1.out.cell
    have k2 := P2.out.cell
    go_wp2_with fail
    go_ret
    exact ⟨rfl, FA.out⟩
end Go.Proofs.Ytnggimkkjdipmaa
