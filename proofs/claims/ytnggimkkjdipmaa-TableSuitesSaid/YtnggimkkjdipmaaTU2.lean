import Derived.Test.YtnggimkkjdipmaaTB14
namespace Go.Proofs.Ytnggimkkjdipmaa
open Go.RowKit
set_option linter.unusedVariables false
set_option linter.unusedSimpArgs false
set_option maxHeartbeats 16000000
set_option maxRecDepth 100000
/-! ### slices.Grow of nothing, slices.Concat -/
theorem zeros_len (n : Nat) : (Builtin.zeroCells #[Value.int .i64 0] n) = (List.replicate n (Value.int .i64 0)).toArray := by
  unfold Builtin.zeroCells
  apply Array.ext
  · simp
  · intro i h1 h2
    simp [Nat.mod_one]
theorem run_append_made (w : World) (base : Option Addr) (n : Nat) (h1 : 0 < n) (h2 : n ≤ 1000000) :
    (Builtin.append_ #[25, 3] 25 #[.slice base 0 0, .int .i64 n]).run Try.prog w =
      .ok (.slice (some ⟨w.heap.size, 0, none⟩) n (grownCap w n 0 3)) (w.drew.alloc (.cells ((Builtin.zeroCells #[Value.int .i64 0] n) ++ Builtin.zeroCells #[Value.int .i64 0] (grownCap w n 0 3 - n)) 3)) := by
  have hz : iInt.zero = some (.int .i64 0) := by kernel_rfl
  have hb : iInt.bytes = 8 := by kernel_rfl
  have hs : iInt.size = 1 := by kernel_rfl
  have hw : IntKind.i64.wrap (n : Int) = n := by rw [IntKind.wrap_i64]; omega
  have hsl : Builtin.nextslicecap n 0 ≤ 2 * n := nextslicecap_le (by omega)
  have hn : ¬ n = 0 := by omega
  have hn0 : ¬ ((n : Int) < 0) := by omega
  have h63' : ¬ (9223372036854775807 < (n : Int)) := by omega
  have h48 : ¬ (281474976710656 < (n : Int) * 8) := by omega
  have h48' : ¬ (281474976710656 < Builtin.nextslicecap n 0 * 8) := by omega
  cases base <;> simp [Builtin.append_, run_underlying uInts, run_underlying uInt, sizeOf, typeInfo, zeroValue, infoInt, hz, hb, hs, hw, hn, hn0, h63', h48, h48', Question.forced, newRow, grownCap, asInt, go_sem] <;> rfl
theorem wpList_append_run2 {P : Program} (w : World) {ops : Array Oper} {rest : List Oper} {o : Oper} {a : Act} {Q : Exit → Act → World → Prop} (hgd : o.guard = none) (s x : Operand) (t tx : TypeId)
    (ho : o.op = .call { callee := .builtin .append, args := #[s, x], argTypes := #[t, tx] }) {v xv v' : Value} {w' : World} (hv : a.eval s = v) (hx : a.eval x = xv)
    (hrun : (Builtin.append_ #[t, tx] o.type #[v, xv]).run P w = .ok v' w') (hK : wpList P ops Q rest (a.put o.dst v') w') : wpList P ops Q (o :: rest) a w := by
  refine wpList_plain hgd fun K hK' => ?_
  unfold Oper.wp
  simp [execOp, ho, resolve, invoke, builtin, hv, hx, hrun, Result.andThen]
  exact hK' _ _ hK
theorem grow_any (n : Nat) (hn : n ≤ 1000000) (w : World) :
    Calls Try.prog 95 #[.slice none 0 0, .int .i64 n] w fun e w' => ∃ v' bo, e = .returned v' ∧ Row 1 w' v' 0 [] bo ∧ (∀ z, bo = some z → w.heap.size ≤ z) ∧ Fr [] w w' := by
  by_cases h0 : n = 0
  · subst h0
    go_enter Try.func95, Try.ntmps95
    go_wp2_with fail
    go_ret
    exact ⟨_, none, rfl, Row.nil 1 _ none, by simp, Fr.refl _ _⟩
  · have h1 : (0 : Int) < (n : Int) := by omega
    have hrun := run_append_made w none n (by omega) hn
    obtain ⟨cp, hcp⟩ : ∃ x, grownCap w n 0 3 = x := ⟨_, rfl⟩
    have hge := grownCap_ge w n 0 3
    rw [hcp] at hrun hge
    obtain ⟨w2, hw2⟩ : ∃ x, w.drew.alloc (.cells ((Builtin.zeroCells #[Value.int .i64 0] n) ++ Builtin.zeroCells #[Value.int .i64 0] (cp - n)) 3) = x := ⟨_, rfl⟩
    have P2 := Pt.newA w.drew 3 ((Builtin.zeroCells #[Value.int .i64 0] n) ++ Builtin.zeroCells #[Value.int .i64 0] (cp - n))
    have F2 : Fr [] w w2 := by rw [← hw2]; exact ((Fr.refl [] w).drew).alloc _
    rw [hw2] at hrun P2
    have e1 : ((Builtin.zeroCells #[Value.int .i64 0] n) ++ Builtin.zeroCells #[Value.int .i64 0] (cp - n)).toList = List.replicate cp (Value.int .i64 0) := by
      rw [zeros_len, zeros_len]
      simp
      omega
    rw [e1] at P2
    have hd : w.drew.heap.size = w.heap.size := rfl
    rw [hd] at P2
    have GR : Row 1 w2 (.slice (some ⟨w.heap.size, 0, none⟩) 0 cp) 0 [] (some w.heap.size) := by
      refine .inr ⟨w.heap.size, 0, cp, rfl, rfl, by omega, P2.lt, rfl, fun j hj => ⟨?_, by rw [Nat.zero_add]; exact P2.free j⟩, fun j hj => by omega⟩
      rw [Nat.zero_add, P2.cell, List.getElem?_replicate, if_pos (by omega)]
      rfl
    have hcp0 : ¬ cp = 0 := by omega
    have hcp1 : 0 < cp := by omega
    clear hw2
    replace P2 := Lib.hid P2; replace F2 := Lib.hid F2; replace GR := Lib.hid GR; replace hrun := Lib.hid hrun; replace hcp := Lib.hid hcp; replace hge := Lib.hid hge; replace e1 := Lib.hid e1
    go_enter Try.func95, Try.ntmps95
    go_wp2_with (first | (at_builtin; refine wpList_append_run2 _ rfl _ _ _ _ rfl rfl rfl hrun.out ?_))
    go_ret
    exact ⟨_, _, rfl, GR.out, by simp, F2.out⟩
end Go.Proofs.Ytnggimkkjdipmaa
