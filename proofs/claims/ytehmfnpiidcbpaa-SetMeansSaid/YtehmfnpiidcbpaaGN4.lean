import Derived.Test.YtehmfnpiidcbpaaGN3
import Derived.Test.YtehmfnpiidcbpaaGS9
namespace Go.Proofs.Ytehmfnpiidcbpaa
open Go.RowKit
set_option linter.unusedVariables false
set_option linter.unusedSimpArgs false
set_option maxHeartbeats 16000000
set_option maxRecDepth 100000
/-! ### check -/
theorem chk_lim {n : Nd} (h : 200 < n.nodes ∨ 20 < n.deep) : chkF n = 2 := by unfold chkF; rw [if_pos h]
theorem chk_no {n : Nd} (h : ¬ (200 < n.nodes ∨ 20 < n.deep)) (h2 : n.sh = false) : chkF n = 1 := by unfold chkF; rw [if_neg h, if_neg (by rw [h2]; decide)]
theorem chk_ok {n : Nd} (h : ¬ (200 < n.nodes ∨ 20 < n.deep)) (h2 : n.sh = true) : chkF n = 0 := by unfold chkF; rw [if_neg h, if_pos h2]
theorem ret_i {a b : Int} (h : a = b) : Ending.returned (.int .i64 a) = .returned (.int .i64 b) := by rw [h]
theorem check_any (n : Nd) (w : World) (v : Value) (hN : n.nodes ≤ 100000) (hv : NI w n v) :
    Calls Try.prog 43 #[v] w fun e w' => e = .returned (.int .i64 (chkF n)) ∧ Fr [] w w' := by
  have S := fun W (f : Fr [] w W) => size_any n.nodes n W v (Nat.le_refl _) hN (hv.go f)
  have F := fun W (f : Fr [] w W) => formed_any n.nodes n W v (Nat.le_refl _) hN (hv.go f)
  have hdn := deep_le n
  have q1 := @chk_lim n
  have q2 := @chk_no n
  have q3 := @chk_ok n
  obtain ⟨o, cap, rfl, hl⟩ := hv.open
  clear hl
  obtain ⟨op, hop⟩ : ∃ x, n.op = x := ⟨_, rfl⟩
  obtain ⟨lo, hlo⟩ : ∃ x, n.lo = x := ⟨_, rfl⟩
  obtain ⟨hi, hhi⟩ : ∃ x, n.hi = x := ⟨_, rfl⟩
  obtain ⟨K, hK⟩ : ∃ x, n.kids.length = x := ⟨_, rfl⟩
  rw [hop, hlo, hhi, hK] at S F ⊢
  obtain ⟨T, hT⟩ : ∃ x, n.nodes = x := ⟨_, rfl⟩
  obtain ⟨D, hD⟩ : ∃ x, n.deep = x := ⟨_, rfl⟩
  obtain ⟨V, hV⟩ : ∃ x, n.sh = x := ⟨_, rfl⟩
  obtain ⟨C, hC⟩ : ∃ x, chkF n = x := ⟨_, rfl⟩
  rw [hT] at hN hdn q1 q2 q3 S
  rw [hD] at hdn q1 q2 q3 S
  rw [hV] at q2 q3 F
  rw [hC] at q1 q2 q3 ⊢
  clear hv
  obtain ⟨w1, hw1⟩ : ∃ x, w.alloc (.cells #[.int .i64 op, .int .i64 lo, .int .i64 hi, .slice o K cap] 46) = x := ⟨_, rfl⟩
  have P1 := Pt.newA w 46 #[.int .i64 op, .int .i64 lo, .int .i64 hi, .slice o K cap]
  rw [hw1] at P1
  have F1 : Fr [] w w1 := by rw [← hw1]; exact (Fr.refl [] w).alloc _
  obtain ⟨b1, hb1⟩ : ∃ x, w.heap.size = x := ⟨_, rfl⟩
  rw [hb1] at P1
  have k1 := P1.cell
  have S1 := S w1 F1
  by_cases c1 : 200 < T
  · have c1I : (200 : Int) < (T : Int) := by omega
    obtain rfl : C = 2 := q1 (.inl c1)
    replace S := Lib.hid S; replace S1 := Lib.hid S1; replace F := Lib.hid F; replace P1 := Lib.hid P1; replace F1 := Lib.hid F1; replace hop := Lib.hid hop; replace hlo := Lib.hid hlo; replace hhi := Lib.hid hhi; replace hK := Lib.hid hK; replace hT := Lib.hid hT; replace hD := Lib.hid hD; replace hV := Lib.hid hV; replace hC := Lib.hid hC; replace q1 := Lib.hid q1; replace q2 := Lib.hid q2; replace q3 := Lib.hid q3
    go_enter Try.func43, Try.ntmps43
    go_wp2_with fail
    refine (S1.out).mono ?_
    rintro e w2 ⟨rfl, f2⟩
    have F2 := F1.out.trans f2
    replace f2 := Lib.hid f2; replace F2 := Lib.hid F2
    go_wp2_with fail
    go_ret
    exact ⟨rfl, F2.out⟩
  · have c1I : ¬ (200 : Int) < (T : Int) := by omega
    by_cases c2 : 20 < D
    · have c2I : (20 : Int) < (D : Int) := by omega
      obtain rfl : C = 2 := q1 (.inr c2)
      replace S := Lib.hid S; replace S1 := Lib.hid S1; replace F := Lib.hid F; replace P1 := Lib.hid P1; replace F1 := Lib.hid F1; replace hop := Lib.hid hop; replace hlo := Lib.hid hlo; replace hhi := Lib.hid hhi; replace hK := Lib.hid hK; replace hT := Lib.hid hT; replace hD := Lib.hid hD; replace hV := Lib.hid hV; replace hC := Lib.hid hC; replace q1 := Lib.hid q1; replace q2 := Lib.hid q2; replace q3 := Lib.hid q3
      go_enter Try.func43, Try.ntmps43
      go_wp2_with fail
      refine (S1.out).mono ?_
      rintro e w2 ⟨rfl, f2⟩
      have F2 := F1.out.trans f2
      replace f2 := Lib.hid f2; replace F2 := Lib.hid F2
      go_wp2_with fail
      go_ret
      exact ⟨rfl, F2.out⟩
    · have c2I : ¬ (20 : Int) < (D : Int) := by omega
      replace S := Lib.hid S; replace S1 := Lib.hid S1; replace F := Lib.hid F; replace P1 := Lib.hid P1; replace F1 := Lib.hid F1; replace hop := Lib.hid hop; replace hlo := Lib.hid hlo; replace hhi := Lib.hid hhi; replace hK := Lib.hid hK; replace hT := Lib.hid hT; replace hD := Lib.hid hD; replace hV := Lib.hid hV; replace hC := Lib.hid hC; replace q1 := Lib.hid q1; replace q2 := Lib.hid q2; replace q3 := Lib.hid q3
      go_enter Try.func43, Try.ntmps43
      go_wp2_with fail
      refine (S1.out).mono ?_
      rintro e w2 ⟨rfl, f2⟩
      have F2 := F1.out.trans f2
      have k2 := (f2.pt P1.out (by simp)).cell
      have FF := F.out w2 F2
      replace f2 := Lib.hid f2; replace F2 := Lib.hid F2; replace FF := Lib.hid FF
      go_wp2_with fail
      refine (FF.out).mono ?_
      rintro e w3 ⟨rfl, f3⟩
      have F3 := F2.out.trans f3
      replace f3 := Lib.hid f3; replace F3 := Lib.hid F3
      cases V
      · go_wp2_with fail
        go_ret
        exact ⟨ret_i (q2.out (by omega) (by first | rfl | trivial)).symm, F3.out⟩
      · go_wp2_with fail
        go_ret
        exact ⟨ret_i (q3.out (by omega) (by first | rfl | trivial)).symm, F3.out⟩
/-! ### value: its lists -/
theorem uLs : Try.prog.underlying 68 = some (.slice 22) := by kernel_rfl
noncomputable def iLs : TypeInfo := (Try.prog.info? 22).getD default
theorem infoLs : Try.prog.info? 22 = some iLs := by kernel_rfl
noncomputable def zLs : Value := iLs.zero.getD default
theorem bytesLs : iLs.bytes = 24 := by kernel_rfl
theorem Row.oneL {w : World} {v : Value} {l : List Value} {bo : Option Nat} (h : Row 1 w v l.length l bo) (hn : (l.length + 1) * 24 ≤ 140737488355328) (x : Value) (hx : x.oneCell' = true) :
    ∃ v' w' bo', (Builtin.append_ #[68, 68] 68 #[v, .slice (some ⟨w.heap.size, 0, none⟩) 1 1]).run Try.prog (w.alloc (.cells #[x] 22)) = .ok v' w' ∧
      Row 1 w' v' (l ++ [x]).length (l ++ [x]) bo' ∧ (bo' = bo ∨ ∃ z, bo' = some z ∧ w.heap.size ≤ z) ∧ Fr bo.toList w w' := by
  have f1 : Fr [] w (w.alloc (.cells #[x] 22)) := (Fr.refl [] w).alloc _
  have P1 := Pt.newA w 22 #[x]
  have h1 := h.fr f1 (by simp)
  have hsrc : Src Try.prog 1 68 (.slice (some ⟨w.heap.size, 0, none⟩) 1 1) 1 [x] (w.alloc (.cells #[x] 22)) := Src.ofSlice _ uLs ⟨w.heap.size, 0, none⟩ 1 1 _ rfl (fun j u hu => by rw [Addr.add_lit, P1.cell, Nat.zero_add]; exact hu) (by intro u hu; simp at hu; rw [hu]; exact hx)
  obtain ⟨v', w', bo', hrun, hr, hb, hf⟩ := h1.appendW (t := 68) (ty := 68) (e := 22) (i := iLs) (z := zLs) uLs infoLs (by kernel_rfl) (by kernel_rfl) (by omega) (by kernel_rfl) hsrc (by omega) (by rw [bytesLs]; exact hn) (by omega)
  refine ⟨v', w', bo', hrun, ?_, ?_, (f1.mono (by simp)).trans hf⟩
  · rw [List.length_append]; exact hr
  · rcases hb with hb | hb
    · exact .inl hb
    · exact .inr ⟨_, hb, f1.size⟩
/-- The list of one constraint, as value makes it. -/
structure VaL (n : Nd) (L : List (Int × Int)) : Prop where
  nf : Nf L
  num : ∀ x, inS L x ↔ n.hold x = true
  len : L.length ≤ n.nodes
/-- value's lists, half done. -/
structure ValI (w : World) (n : Nd) (ps : List (Value × List (Int × Int))) (wr : World) (v : Value) (bo : Option Nat) : Prop where
  row : Row 1 wr v (ps.map (·.1)).length (ps.map (·.1)) bo
  len : ps.length ≤ n.kids.length
  new : ∀ z, bo = some z → w.heap.size ≤ z
  el : ∀ j (h : j < ps.length) (h2 : j < n.kids.length), VaL n.kids[j] ps[j].2 ∧ PInB (fun z => w.heap.size ≤ z ∧ bo ≠ some z) wr ps[j].1 ps[j].2
  fr : Fr [] w wr
theorem ValI.start (w : World) (n : Nd) : ValI w n [] w (.slice none 0 0) none := ⟨Row.nil _ _ _, by simp, by simp, fun j h => by simp at h, Fr.refl _ _⟩
theorem ValI.put {w : World} {n : Nd} {ps : List (Value × List (Int × Int))} {wr : World} {v : Value} {bo : Option Nat} (h : ValI w n ps wr v bo) (hb : n.nodes ≤ 100000) (hlt : ps.length < n.kids.length) {W : World} (hf : Fr [] wr W) {u : Value} {L : List (Int × Int)}
    (hL : VaL n.kids[ps.length] L) (hu : PInB (fun z => wr.heap.size ≤ z) W u L) :
    ∃ v' w' bo', (Builtin.append_ #[68, 68] 68 #[v, .slice (some ⟨W.heap.size, 0, none⟩) 1 1]).run Try.prog (W.alloc (.cells #[u] 22)) = .ok v' w' ∧ ValI w n (ps ++ [(u, L)]) w' v' bo' := by
  have hk := nodesL_len n.kids
  have hk2 := n.nodes_eq
  have hu1 : u.oneCell' = true := by obtain ⟨o, cap, rfl, _⟩ := hu; rfl
  obtain ⟨v', w', bo', hrun, hr, hbo, hf2⟩ := (h.row.fr hf (by simp)).oneL (by simp; omega) u hu1
  have hold : ∀ z, bo = some z → z < wr.heap.size := fun z hz => by have := h.row; rw [hz] at this; exact this.lt
  refine ⟨v', w', bo', hrun, by simpa using hr, by simp; omega, fun z hz => ?_, fun j hj h2 => ?_, (h.fr.trans hf).step hf2 (fun z hz => .inr (h.new z (by simpa using hz)))⟩
  · rcases hbo with e | ⟨z', e, h3⟩
    · exact h.new z (by rw [← e]; exact hz)
    · rw [hz] at e; cases e; have := h.fr.size; have := hf.size; omega
  · have nb : ∀ b, b < W.heap.size → bo ≠ some b → bo' ≠ some b := fun b h3 h4 h5 => by
      rcases hbo with e | ⟨z', e, h6⟩
      · exact h4 (by rw [← e]; exact h5)
      · rw [h5] at e; cases e; omega
    by_cases e : j < ps.length
    · obtain ⟨a1, a2⟩ := h.el j e h2
      have eg : (ps ++ [(u, L)])[j] = ps[j] := List.getElem_append_left e
      rw [eg]
      refine ⟨a1, (a2.fr (q' := fun z => w.heap.size ≤ z ∧ bo ≠ some z) hf (fun b _ hq => ⟨by simp, hq⟩)).fr hf2 (fun b hb1 hq => ⟨?_, hq.1, nb b hb1 hq.2⟩)⟩
      intro hm; exact hq.2 (by simpa using hm)
    · have hj' : j = ps.length := by simp at hj; omega
      subst hj'
      have eg : (ps ++ [(u, L)])[ps.length] = (u, L) := by simp
      rw [eg]
      refine ⟨hL, hu.fr hf2 (fun b hb1 hq => ?_)⟩
      have hne : bo ≠ some b := fun e2 => by have := hold b e2; omega
      exact ⟨fun hm => hne (by simpa using hm), by have := h.fr.size; omega, nb b hb1 hne⟩
theorem ValI.ls {w : World} {n : Nd} {ps : List (Value × List (Int × Int))} {wr : World} {v : Value} {bo : Option Nat} (h : ValI w n ps wr v bo) : LsI wr v ps := by
  have hlen := h.len
  refine ⟨?_, fun p hp => ?_⟩
  · rcases h.row with ⟨_, h2, _, o, rfl⟩ | ⟨b, off, cap, hb, rfl, h3, h4, _, _, h7⟩
    · rw [List.length_map] at h2
      exact ⟨o, 0, by rw [h2], fun i hi => by omega⟩
    · rw [List.length_map] at h7
      refine ⟨_, cap, by rw [List.length_map], fun i hi => ⟨b, off, rfl, h4, ?_⟩⟩
      rw [h7 i (by omega), List.getElem?_map, List.getElem?_eq_getElem hi]; rfl
  · obtain ⟨i, hi, rfl⟩ := List.getElem_of_mem hp
    exact (h.el i hi (by omega)).2.pin
theorem ValI.cat {w : World} {n : Nd} {ps : List (Value × List (Int × Int))} {wr : World} {v : Value} {bo : Option Nat} (h : ValI w n ps wr v bo) : ∀ i, i ≤ ps.length → (catL ps i).length ≤ nodesL (n.kids.take i)
  | 0, _ => by simp [catL]
  | i + 1, hi => by
    have := ValI.cat h i (by omega)
    have hl := h.len
    rw [catL_succ ps i (by omega), List.length_append, nodesL_take n.kids i (by omega)]
    have := (h.el i (by omega) (by omega)).1.len
    omega
end Go.Proofs.Ytehmfnpiidcbpaa
