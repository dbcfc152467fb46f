import Derived.Test.YtjgmlnkbplgloaaS14
namespace Go.Proofs.Ytjgmlnkbplgloaa
open Go.RowKit
set_option linter.unusedVariables false
set_option linter.unusedSimpArgs false
set_option maxHeartbeats 8000000
set_option maxRecDepth 20000
/-! ### The reference's side -/
structure RS where
  first : Bool
  m : Int
  a : Int
  r : Int
  opn : Int
  own : List Int
  other : List Int
  wt : Bool
  wh : Int
  wn : Int
  kt : Bool
  kh : Int
  kn : Int
def RS.cells (s : RS) (vo vt : Value) : List Value := [.bool s.first, .int .i64 s.m, .int .i64 s.a, .int .i64 s.r, .int .i64 s.opn, vo, vt, .bool s.wt, .int .i64 s.wh, .int .i64 s.wn, .bool s.kt, .int .i64 s.kh, .int .i64 s.kn]
abbrev TRef : TypeId := 62
theorem one_any (way k a b : Int) (w : World) : Calls Try.prog 50 #[.int .i64 way, .int .i64 k, .int .i64 a, .int .i64 b] w fun e w' => (∃ v, e = .returned v ∧ EvRes w.heap.size w' v [⟨way, k, a, b, 0, ByteArray.empty⟩]) ∧ Fr [] w w' := by
  go_enter Try.func50, Try.ntmps50
  go_wp2_with fail
  go_ret
  exact ⟨⟨_, rfl, .inr ⟨_, _, rfl, rfl, Pt.newA _ _ _, Nat.le_refl _⟩⟩, (Fr.refl _ _).alloc _⟩
theorem IR0.fr {w w' : World} {v : Value} {l : List Int} (h : IR0 w v l) (hf : Fr [] w w') : IR0 w' v l := by
  obtain ⟨o, cap, h1, h2, h3⟩ := h
  refine ⟨o, cap, h1, h2, fun i hi => ?_⟩
  obtain ⟨b, off, e, hb, _, hc⟩ := h3 i hi
  exact ⟨b, off, e, Nat.lt_of_lt_of_le hb hf.size, trivial, by rw [hf.cell (p := ⟨b, off + i, none⟩) hb (by simp)]; exact hc⟩
theorem has_any (v : Value) (ds : List Int) (n : Int) (w : World) (hD : IR0 w v ds) (hn : ds.length < 1000000) :
    Calls Try.prog 48 #[v, .int .i64 n] w fun e w' => e = .returned (.bool (decide (n ∈ ds))) ∧ w = w' := by
  obtain ⟨o, cap, rfl, _, hl⟩ := hD
  replace hl := Lib.hid hl
  go_enter Try.func48, Try.ntmps48
  go_wp2_with fail
  go_loop [5] (fun v => ∃ i : Nat, i ≤ ds.length ∧ v = .int .i64 i ∧ n ∉ ds.take i) (fun v => (ds.length - intOf v).toNat)
  case atStart => exact ⟨0, by omega, rfl, by simp⟩
  case round =>
    obtain ⟨i, hi, rfl, hni⟩ := hrel
    by_cases hlt : (i : Int) < ds.length
    · have hil : i < ds.length := by omega
      obtain ⟨b, off, rfl, hb, _, hc⟩ := hl.out i hil
      obtain ⟨y, hy⟩ : ∃ y, ds[i] = y := ⟨_, rfl⟩
      rw [hy] at hc
      by_cases hny : n = y
      · subst hny
        have hmem : n ∈ ds := by rw [← hy]; exact List.getElem_mem hil
        have hd := Lib.hid (decide_eq_true hmem)
        clear hni hy hmem
        go_wp2
        go_ret
        exact ⟨by rw [hd.out]; rfl, rfl⟩
      · have hnn : n ∉ ds.take (i + 1) := by
          rw [List.take_succ_eq_append_getElem hil, hy]
          simp [hni, hny]
        have hyn : (y == n) = false := by rw [beq_eq_false_iff_ne]; exact fun h => hny h.symm
        clear hni hy
        replace hnn := Lib.hid hnn
        go_wp2
        go_round
        case rel => exact ⟨i + 1, by omega, by go_num, hnn.out⟩
        case measure => simp [intOf]; omega
    · have hid : i = ds.length := by omega
      subst hid
      rw [List.take_length] at hni
      have hd := Lib.hid (decide_eq_false hni)
      clear hni
      go_wp2
      go_ret
      exact ⟨by rw [hd.out]; rfl, rfl⟩
def betw (lo hi n : Int) : Bool := decide (lo ≤ n) && decide (n < hi)
theorem betw_snoc (p : Int → Bool) (l : List Int) (i : Nat) (h : i < l.length) : (l.take (i + 1)).filter p = if p l[i] then (l.take i).filter p ++ [l[i]] else (l.take i).filter p := by
  rw [List.take_succ_eq_append_getElem h, List.filter_append]
  by_cases hp : p l[i] <;> simp [hp]
/-- The numbers of a list from lo to hi - 1, in new memory. -/
theorem between_any (v : Value) (l : List Int) (lo hi : Int) (w : World) (hD : IR0 w v l) (hn : l.length < 900000) :
    Calls Try.prog 58 #[v, .int .i64 lo, .int .i64 hi] w fun e w' => ∃ v' bo, e = .returned v' ∧ Row 1 w' v' (l.filter (betw lo hi)).length (ints (l.filter (betw lo hi))) bo ∧ (∀ z, bo = some z → w.heap.size ≤ z) ∧ Fr [] w w' := by
  have hD' := hD
  obtain ⟨o, cap, rfl, _, _⟩ := hD'
  replace hD := Lib.hid hD
  go_enter Try.func58, Try.ntmps58
  go_wp2_with fail
  go_loopw [7, 8] (fun vv vi wr => ∃ (i : Nat) (bo : Option Nat), i ≤ l.length ∧ vi = .int .i64 i ∧ Row 1 wr vv ((l.take i).filter (betw lo hi)).length (ints ((l.take i).filter (betw lo hi))) bo ∧ (∀ z, bo = some z → w.heap.size ≤ z) ∧ Fr [] w wr) (fun _ vi _ => (l.length - intOf vi).toNat)
  case atStart => exact ⟨0, none, by omega, rfl, Row.nil 1 _ none, by simp, Fr.refl _ _⟩
  case round =>
    obtain ⟨i, bo, hi0, rfl, hR, hb, hf⟩ := hrel
    by_cases hlt : (i : Int) < l.length
    · have hil : i < l.length := by omega
      obtain ⟨_, _, hv, _, hl⟩ := hD.out.fr hf
      cases hv
      obtain ⟨b, off, rfl, hbl, _, hc⟩ := hl i hil
      have hsn := betw_snoc (betw lo hi) l i hil
      have hll : ((l.take i).filter (betw lo hi)).length < 1000000 := by
        have := List.length_filter_le (betw lo hi) (l.take i)
        rw [List.length_take] at this
        omega
      obtain ⟨y, hy⟩ : ∃ y, l[i] = y := ⟨_, rfl⟩
      rw [hy] at hc hsn
      obtain ⟨kk, hkk⟩ : ∃ kk, (l.take i).filter (betw lo hi) = kk := ⟨_, rfl⟩
      rw [hkk] at hR hsn hll
      clear hl hy hkk
      have NO : betw lo hi y = false → (l.take (i + 1)).filter (betw lo hi) = kk := fun h => by rw [hsn, h]; rfl
      have YES : betw lo hi y = true → (l.take (i + 1)).filter (betw lo hi) = kk ++ [y] := fun h => by rw [hsn, h]; rfl
      replace NO := Lib.hid NO; replace YES := Lib.hid YES
      clear hsn
      by_cases h1 : lo ≤ y
      · by_cases h2 : y < hi
        · have hbt : betw lo hi y = true := by unfold betw; rw [decide_eq_true h1, decide_eq_true h2]; rfl
          have hd1 : decide (lo ≤ y) = true := decide_eq_true h1
          obtain ⟨v', w', bo', hrun, hR', hb', hF'⟩ := hR.one hll y
          have E := YES.out hbt
          have hb2 : ∀ z, bo' = some z → w.heap.size ≤ z := fun z hz => by
            rcases hb' with h | ⟨q, h, hq⟩
            · rw [h] at hz; exact hb z hz
            · rw [h] at hz; cases hz; exact Nat.le_trans hf.size hq
          have hF2 : Fr [] w w' := hf.step hF' (fun z hz => .inr (hb z (by simpa using hz)))
          replace hrun := Lib.hid hrun; replace hR := Lib.hid hR; replace hb := Lib.hid hb; replace hf := Lib.hid hf; replace hR' := Lib.hid hR'; replace hb' := Lib.hid hb'; replace hF' := Lib.hid hF'; replace E := Lib.hid E; replace hb2 := Lib.hid hb2; replace hF2 := Lib.hid hF2
          clear hbt
          go_wp2_with (first | (at_builtin; refine wpList_append_run _ rfl _ _ _ rfl rfl rfl hrun.out ?_))
          go_roundw
          case rel => exact ⟨i + 1, bo', by omega, by go_num, by rw [E.out]; exact hR'.out, hb2.out, hF2.out⟩
          case measure => simp [intOf]; omega
        · have hbt : betw lo hi y = false := by unfold betw; rw [decide_eq_false h2]; simp
          have hd1 : decide (lo ≤ y) = true := decide_eq_true h1
          have E := NO.out hbt
          replace hR := Lib.hid hR; replace hb := Lib.hid hb; replace hf := Lib.hid hf; replace E := Lib.hid E
          clear hbt
          go_wp2_with fail
          go_roundw
          case rel => exact ⟨i + 1, bo, by omega, by go_num, by rw [E.out]; exact hR.out, hb.out, hf.out⟩
          case measure => simp [intOf]; omega
      · have hbt : betw lo hi y = false := by unfold betw; rw [decide_eq_false h1]; rfl
        have hd1 : decide (lo ≤ y) = false := decide_eq_false h1
        have E := NO.out hbt
        replace hR := Lib.hid hR; replace hb := Lib.hid hb; replace hf := Lib.hid hf; replace E := Lib.hid E
        clear hbt
        go_wp2_with fail
        go_roundw
        case rel => exact ⟨i + 1, bo, by omega, by go_num, by rw [E.out]; exact hR.out, hb.out, hf.out⟩
        case measure => simp [intOf]; omega
    · have hid : i = l.length := by omega
      subst hid
      rw [List.take_length] at hR
      replace hR := Lib.hid hR; replace hb := Lib.hid hb; replace hf := Lib.hid hf
      go_wp2_with fail
      go_ret
      first | exact ⟨_, bo, rfl, hR.out, hb.out, hf.out⟩ | exact ⟨_, rfl, bo, hR.out, hb.out, hf.out⟩
/-- prune and tidy keep the same numbers. -/
theorem keep_betw (a m : Int) (l : List Int) : keep (over a m) l = l.filter (betw a m) := by
  unfold keep
  congr 1
  funext n
  simp only [over, betw]
  by_cases h1 : n < a <;> by_cases h2 : m ≤ n <;> simp [h1, h2] <;> omega
end Go.Proofs.Ytjgmlnkbplgloaa
