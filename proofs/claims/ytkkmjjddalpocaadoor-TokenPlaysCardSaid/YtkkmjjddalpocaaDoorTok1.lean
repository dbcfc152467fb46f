import Derived.Test.YtkkmjjddalpocaaDoorLib
import Derived.Test.YtkkmjjddalpocaaDoorProg
import Derived.Lib.LaidTab
import Derived.WalkSpells
import Derived.WalkLawsBesides
import Derived.BigQuiet
import Derived.Deep.QuietTactic
namespace Go.Proofs.YtkkmjjddalpocaaDoor
open Go.RowKit
set_option linter.unusedVariables false
set_option maxHeartbeats 800000
theorem ret_bool {a b : Bool} (h : a = b) : Ending.returned (.bool a) = .returned (.bool b) := by rw [h]
theorem ret_i64 {a b : Int} (h : a = b) : Ending.returned (.int .i64 a) = .returned (.int .i64 b) := by rw [h]
/-! ### bits.TrailingZeros at 1 to 15 -/
def deBruijnNums : List Int := [0, 1, 56, 2, 57, 49, 28, 3, 61, 58, 42, 50, 38, 29, 17, 4, 62, 47, 59, 36, 45, 43, 51, 22, 53, 39, 33, 30, 24, 18, 12, 5, 63, 55, 48, 27, 60, 41, 37, 16, 46, 35, 44, 21, 52, 32, 23, 11, 54, 26, 40, 15, 34, 20, 31, 10, 25, 14, 19, 9, 13, 8, 7, 6]
/-- The table of math/bits that TrailingZeros64 reads. -/
def Tab (w : World) : Prop := ∀ i, i < 64 → w.cell? ⟨1, i, none⟩ = some (.int .u8 (deBruijnNums.getD i 0))
theorem Tab.fr {w w' : World} (h : Tab w) {ex : List Nat} (hf : Fr ex w w') (hx : 1 ∉ ex) (hl : 1 < w.heap.size) : Tab w' := fun i hi => (hf.cell hl hx).trans (h i hi)
theorem Tab.lt {w : World} (h : Tab w) : 1 < w.heap.size := World.block_lt_of_cell? w _ (h 0 (by omega))
def tz (x : Int) : Int := if x % 2 = 1 then 0 else if x % 4 = 2 then 1 else if x % 8 = 4 then 2 else 3
theorem tz64_any (x : Int) (w : World) (hT : Tab w) (h0 : 1 ≤ x) (h1 : x ≤ 15) :
    Calls Tryd.prog 47 #[.int .u64 x] w fun e w' => e = .returned (.int .i64 (tz x)) ∧ w = w' := by
  have hx : x = 1 ∨ x = 2 ∨ x = 3 ∨ x = 4 ∨ x = 5 ∨ x = 6 ∨ x = 7 ∨ x = 8 ∨ x = 9 ∨ x = 10 ∨ x = 11 ∨ x = 12 ∨ x = 13 ∨ x = 14 ∨ x = 15 := by omega
  clear h0 h1
  rcases hx with rfl | rfl | rfl | rfl | rfl | rfl | rfl | rfl | rfl | rfl | rfl | rfl | rfl | rfl | rfl
  · have e : w.cell? ⟨1, 0, none⟩ = some (.int .u8 0) := hT 0 (by omega)
    have k : IntKind.u64.wrap (bits BinOp.and IntKind.u64 1 (IntKind.u64.wrap (-1)) * 285870213051353865) / 288230376151711744 = 0 := by decide +kernel
    clear hT
    go_enter Tryd.func47, Tryd.ntmps47
    go_wp2
    go_ret
    exact ⟨rfl, rfl⟩
  · have e : w.cell? ⟨1, 1, none⟩ = some (.int .u8 1) := hT 1 (by omega)
    have k : IntKind.u64.wrap (bits BinOp.and IntKind.u64 2 (IntKind.u64.wrap (-2)) * 285870213051353865) / 288230376151711744 = 1 := by decide +kernel
    clear hT
    go_enter Tryd.func47, Tryd.ntmps47
    go_wp2
    go_ret
    exact ⟨rfl, rfl⟩
  · have e : w.cell? ⟨1, 0, none⟩ = some (.int .u8 0) := hT 0 (by omega)
    have k : IntKind.u64.wrap (bits BinOp.and IntKind.u64 3 (IntKind.u64.wrap (-3)) * 285870213051353865) / 288230376151711744 = 0 := by decide +kernel
    clear hT
    go_enter Tryd.func47, Tryd.ntmps47
    go_wp2
    go_ret
    exact ⟨rfl, rfl⟩
  · have e : w.cell? ⟨1, 3, none⟩ = some (.int .u8 2) := hT 3 (by omega)
    have k : IntKind.u64.wrap (bits BinOp.and IntKind.u64 4 (IntKind.u64.wrap (-4)) * 285870213051353865) / 288230376151711744 = 3 := by decide +kernel
    clear hT
    go_enter Tryd.func47, Tryd.ntmps47
    go_wp2
    go_ret
    exact ⟨rfl, rfl⟩
  · have e : w.cell? ⟨1, 0, none⟩ = some (.int .u8 0) := hT 0 (by omega)
    have k : IntKind.u64.wrap (bits BinOp.and IntKind.u64 5 (IntKind.u64.wrap (-5)) * 285870213051353865) / 288230376151711744 = 0 := by decide +kernel
    clear hT
    go_enter Tryd.func47, Tryd.ntmps47
    go_wp2
    go_ret
    exact ⟨rfl, rfl⟩
  · have e : w.cell? ⟨1, 1, none⟩ = some (.int .u8 1) := hT 1 (by omega)
    have k : IntKind.u64.wrap (bits BinOp.and IntKind.u64 6 (IntKind.u64.wrap (-6)) * 285870213051353865) / 288230376151711744 = 1 := by decide +kernel
    clear hT
    go_enter Tryd.func47, Tryd.ntmps47
    go_wp2
    go_ret
    exact ⟨rfl, rfl⟩
  · have e : w.cell? ⟨1, 0, none⟩ = some (.int .u8 0) := hT 0 (by omega)
    have k : IntKind.u64.wrap (bits BinOp.and IntKind.u64 7 (IntKind.u64.wrap (-7)) * 285870213051353865) / 288230376151711744 = 0 := by decide +kernel
    clear hT
    go_enter Tryd.func47, Tryd.ntmps47
    go_wp2
    go_ret
    exact ⟨rfl, rfl⟩
  · have e : w.cell? ⟨1, 7, none⟩ = some (.int .u8 3) := hT 7 (by omega)
    have k : IntKind.u64.wrap (bits BinOp.and IntKind.u64 8 (IntKind.u64.wrap (-8)) * 285870213051353865) / 288230376151711744 = 7 := by decide +kernel
    clear hT
    go_enter Tryd.func47, Tryd.ntmps47
    go_wp2
    go_ret
    exact ⟨rfl, rfl⟩
  · have e : w.cell? ⟨1, 0, none⟩ = some (.int .u8 0) := hT 0 (by omega)
    have k : IntKind.u64.wrap (bits BinOp.and IntKind.u64 9 (IntKind.u64.wrap (-9)) * 285870213051353865) / 288230376151711744 = 0 := by decide +kernel
    clear hT
    go_enter Tryd.func47, Tryd.ntmps47
    go_wp2
    go_ret
    exact ⟨rfl, rfl⟩
  · have e : w.cell? ⟨1, 1, none⟩ = some (.int .u8 1) := hT 1 (by omega)
    have k : IntKind.u64.wrap (bits BinOp.and IntKind.u64 10 (IntKind.u64.wrap (-10)) * 285870213051353865) / 288230376151711744 = 1 := by decide +kernel
    clear hT
    go_enter Tryd.func47, Tryd.ntmps47
    go_wp2
    go_ret
    exact ⟨rfl, rfl⟩
  · have e : w.cell? ⟨1, 0, none⟩ = some (.int .u8 0) := hT 0 (by omega)
    have k : IntKind.u64.wrap (bits BinOp.and IntKind.u64 11 (IntKind.u64.wrap (-11)) * 285870213051353865) / 288230376151711744 = 0 := by decide +kernel
    clear hT
    go_enter Tryd.func47, Tryd.ntmps47
    go_wp2
    go_ret
    exact ⟨rfl, rfl⟩
  · have e : w.cell? ⟨1, 3, none⟩ = some (.int .u8 2) := hT 3 (by omega)
    have k : IntKind.u64.wrap (bits BinOp.and IntKind.u64 12 (IntKind.u64.wrap (-12)) * 285870213051353865) / 288230376151711744 = 3 := by decide +kernel
    clear hT
    go_enter Tryd.func47, Tryd.ntmps47
    go_wp2
    go_ret
    exact ⟨rfl, rfl⟩
  · have e : w.cell? ⟨1, 0, none⟩ = some (.int .u8 0) := hT 0 (by omega)
    have k : IntKind.u64.wrap (bits BinOp.and IntKind.u64 13 (IntKind.u64.wrap (-13)) * 285870213051353865) / 288230376151711744 = 0 := by decide +kernel
    clear hT
    go_enter Tryd.func47, Tryd.ntmps47
    go_wp2
    go_ret
    exact ⟨rfl, rfl⟩
  · have e : w.cell? ⟨1, 1, none⟩ = some (.int .u8 1) := hT 1 (by omega)
    have k : IntKind.u64.wrap (bits BinOp.and IntKind.u64 14 (IntKind.u64.wrap (-14)) * 285870213051353865) / 288230376151711744 = 1 := by decide +kernel
    clear hT
    go_enter Tryd.func47, Tryd.ntmps47
    go_wp2
    go_ret
    exact ⟨rfl, rfl⟩
  · have e : w.cell? ⟨1, 0, none⟩ = some (.int .u8 0) := hT 0 (by omega)
    have k : IntKind.u64.wrap (bits BinOp.and IntKind.u64 15 (IntKind.u64.wrap (-15)) * 285870213051353865) / 288230376151711744 = 0 := by decide +kernel
    clear hT
    go_enter Tryd.func47, Tryd.ntmps47
    go_wp2
    go_ret
    exact ⟨rfl, rfl⟩
theorem tz_any (x : Int) (w : World) (hT : Tab w) (h0 : 1 ≤ x) (h1 : x ≤ 15) :
    Calls Tryd.prog 45 #[.int .u64 x] w fun e w' => e = .returned (.int .i64 (tz x)) ∧ w = w' := by
  have HT := Lib.hid hT
  clear hT
  go_enter Tryd.func45, Tryd.ntmps45
  go_wp2_with (go_at_call 47; refine (tz64_any _ _ HT.out (by omega) (by omega)).mono ?_; rintro e w' ⟨rfl, rfl⟩)
  go_ret
  exact ⟨rfl, rfl⟩

/-! ### Sets of tokens -/
/-- The sets that the loop over the tokens goes through. -/
def rest (a : Int) : Nat → Int
  | 0 => a
  | i + 1 => bits .and .u64 (rest a i) (rest a i - 1)
/-- The tokens of a set, ascending. -/
def toks (a : Int) : List Int := [(0, 1), (1, 2), (2, 4), (3, 8)].filterMap fun (t, m) => if bits .and .i64 a m == 0 then none else some t
theorem all16 {p : Int → Bool} (h : (List.range 16).all (fun k => p (k : Int)) = true) (n : Int) (h0 : 0 ≤ n) (h1 : n ≤ 15) : p n = true := by
  obtain ⟨k, rfl⟩ := Int.eq_ofNat_of_zero_le h0
  exact List.all_eq_true.mp h k (by simp; omega)
def restOk (a : Int) (i : Nat) : Bool := if i < (toks a).length then decide (1 ≤ rest a i) && decide (rest a i ≤ 15) && tz (rest a i) == (toks a).getD i 0 && decide (rest a (i + 1) < rest a i) && decide (0 ≤ rest a (i + 1)) else rest a i == 0
theorem rest_ok (a : Int) (h0 : 0 ≤ a) (h1 : a ≤ 15) (i : Nat) (hi : i ≤ (toks a).length) : restOk a i = true := by
  have h4 : (toks a).length ≤ 4 := by unfold toks; exact List.length_filterMap_le _ _
  have h := all16 (p := fun a => restOk a 0 && restOk a 1 && restOk a 2 && restOk a 3 && (decide ((toks a).length < 4) || restOk a 4)) (by decide +kernel) a h0 h1
  simp only [Bool.and_eq_true, Bool.or_eq_true, decide_eq_true_eq] at h
  obtain ⟨⟨⟨⟨r0, r1⟩, r2⟩, r3⟩, r4⟩ := h
  have hi' : i = 0 ∨ i = 1 ∨ i = 2 ∨ i = 3 ∨ i = 4 := by omega
  rcases hi' with rfl | rfl | rfl | rfl | rfl
  · exact r0
  · exact r1
  · exact r2
  · exact r3
  · exact r4.resolve_left (by omega)
theorem rest_in (a : Int) (h0 : 0 ≤ a) (h1 : a ≤ 15) (i : Nat) (hi : i < (toks a).length) : 1 ≤ rest a i ∧ rest a i ≤ 15 ∧ tz (rest a i) = (toks a)[i] ∧ rest a (i + 1) < rest a i ∧ 0 ≤ rest a (i + 1) := by
  have h := rest_ok a h0 h1 i (by omega)
  unfold restOk at h
  rw [if_pos hi] at h
  simp only [Bool.and_eq_true, decide_eq_true_eq, beq_iff_eq] at h
  obtain ⟨⟨⟨⟨r0, r1⟩, r2⟩, r3⟩, r4⟩ := h
  exact ⟨r0, r1, by rw [r2]; simp [hi], r3, r4⟩
theorem rest_end (a : Int) (h0 : 0 ≤ a) (h1 : a ≤ 15) : rest a (toks a).length = 0 := by
  have h := rest_ok a h0 h1 _ (Nat.le_refl _)
  unfold restOk at h
  rw [if_neg (by omega)] at h
  exact beq_iff_eq.1 h

set_option maxRecDepth 100000 in
set_option maxHeartbeats 2000000 in
theorem each_gives (a : Int) (h0 : 0 ≤ a) (h1 : a ≤ 15) (n : Nat) : Gives n Tryd.prog 40 #[.int .i64 a] #[] (fun t : Int => #[.int .i64 t]) (toks a) Tab := fun l J W hG hJ0 hY => by
  have HG := Lib.hid hG
  have HY := Lib.hid hY
  clear hG hY
  have HA := Lib.hid (And.intro h0 h1)
  refine callsIn_of_wp Tryd.func40 rfl trivial ?_ rfl
  simp only [Tryd.ntmps40, List.size_toArray, List.length_cons, List.length_nil, Nat.reduceAdd, Nat.reduceSub, Array.replicate_succ, Array.replicate_zero, List.push_toArray, List.append_toArray, List.nil_append, List.cons_append]
  gi_wp2
  gi_loopw [4] (fun r wr => ∃ i : Nat, i ≤ (toks a).length ∧ r = .int .u64 (rest a i) ∧ J i wr) (fun r _ => (intOf r).toNat)
  case atStart => exact ⟨0, by omega, by simp [rest], hJ0⟩
  case round =>
    obtain ⟨i, hi, rfl, hJi⟩ := hrel
    have HT := Lib.hid (HG.out i wr hJi)
    by_cases hlt : i < (toks a).length
    · obtain ⟨r0, r1, rt, rl, rg⟩ := rest_in a h0 h1 i hlt
      obtain ⟨f1, t1, a1, b1, hy1, hR1⟩ := HY.out i hlt wr hJi
      obtain ⟨x, hx⟩ : ∃ x, rest a i = x := ⟨_, rfl⟩
      rw [hx] at r0 r1 rt rl
      obtain ⟨t, ht⟩ : ∃ t, (toks a)[i] = t := ⟨_, rfl⟩
      rw [ht] at hy1 rt
      have Hx := Lib.hid hx
      have Hrt := Lib.hid rt
      have Hrl := Lib.hid rl
      have Hhi := Lib.hid hi
      have Hlt := Lib.hid hlt
      rw [hx]
      clear hx ht rt hJ0 hJi hi hlt rl rg
      gi_wp2_with fail
      refine ⟨trivial, (fun h => by simp [Fence.wide] at h), ?_⟩
      refine (callsIn_wide.2 (tz_any x _ HT.out r0 r1)).mono ?_
      rintro e w' ⟨rfl, rfl⟩
      rw [Hrt.out]
      gi_wp2_with fail
      refine ⟨(fun h => by simp [Fence.wide] at h), ?_⟩
      refine hR1.mono ?_
      rintro e W' ⟨rfl, hJ'⟩
      gi_wp2
      go_roundw
      case rel => exact ⟨i + 1, Hlt.out, by show _ = Value.int .u64 (bits .and .u64 (rest a i) (rest a i - 1)); rw [Hx.out], hJ'⟩
      case measure => have := Hrl.out; have e : rest a (i + 1) = bits .and .u64 x (x - 1) := (by show bits .and .u64 (rest a i) (rest a i - 1) = _; rw [Hx.out]); simp [intOf]; omega
    · have hi' : i = (toks a).length := by omega
      subst hi'
      have hz : rest a (toks a).length = 0 := rest_end a h0 h1
      rw [hz]
      have HZ := Lib.hid hz
      clear hz hlt hi h0 h1
      gi_wp2
      go_end0
      exact ⟨⟨_, rfl⟩, hJi⟩
end Go.Proofs.YtkkmjjddalpocaaDoor
