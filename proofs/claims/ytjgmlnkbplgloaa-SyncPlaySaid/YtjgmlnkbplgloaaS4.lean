import Derived.Test.YtjgmlnkbplgloaaS3
namespace Go.Proofs.Ytjgmlnkbplgloaa
open Go.RowKit
set_option linter.unusedVariables false
set_option linter.unusedSimpArgs false
set_option maxHeartbeats 4000000
set_option maxRecDepth 20000
variable {X : List Nat}
theorem EvRes.le {B B' : Nat} {w : World} {v : Value} {l : List Ev} (h : EvRes B w v l) (hb : B' ≤ B) : EvRes B' w v l := by
  rcases h with h | ⟨C, e, h1, h2, h3, h4⟩
  · exact .inl h
  · exact .inr ⟨C, e, h1, h2, h3, Nat.le_trans hb h4⟩
theorem within_any (n : Int) (w : World) : Calls Try.prog 37 #[.int .i64 n] w fun e w' => e = .returned (.bool (decide (0 ≤ n) && decide (n ≤ 999999))) ∧ w = w' := by
  by_cases h1 : 0 ≤ n
  · have hd1 : decide (0 ≤ n) = true := decide_eq_true h1
    go_enter Try.func37, Try.ntmps37
    go_wp2_with fail
    go_ret
    exact ⟨by rw [hd1]; rfl, rfl⟩
  · have hd1 : decide (0 ≤ n) = false := decide_eq_false h1
    go_enter Try.func37, Try.ntmps37
    go_wp2_with fail
    go_ret
    exact ⟨rfl, rfl⟩
theorem within_ok (n : Int) (w : World) (h : 0 ≤ n ∧ n ≤ 999999) : Calls Try.prog 37 #[.int .i64 n] w fun e w' => e = .returned (.bool true) ∧ w = w' := by
  have := within_any n w
  rwa [decide_eq_true h.1, decide_eq_true h.2] at this
theorem asks_dm (a b c : Int) (d : ByteArray) (w : World) (h : 0 ≤ a ∧ a ≤ 999999) : Calls Try.prog 24 #[(Ev.mk 1 1 a b c d).val] w fun e w' => e = .returned (.bool true) ∧ Fr [] w w' := by
  dsimp only [Ev.val]
  have W := Lib.hid (fun w => within_ok a w h)
  go_enter Try.func24, Try.ntmps24
  go_wp2_with fail
  refine (W.out _).mono ?_
  rintro e w1 ⟨rfl, rfl⟩
  go_wp2_with fail
  go_ret
  exact ⟨rfl, (Fr.refl _ _).alloc _⟩
theorem asks_uc (a b c : Int) (d : ByteArray) (w : World) (h : 0 ≤ a ∧ a ≤ 999999) : Calls Try.prog 24 #[(Ev.mk 0 2 a b c d).val] w fun e w' => e = .returned (.bool true) ∧ Fr [] w w' := by
  dsimp only [Ev.val]
  have W := Lib.hid (fun w => within_ok a w h)
  go_enter Try.func24, Try.ntmps24
  go_wp2_with fail
  refine (W.out _).mono ?_
  rintro e w1 ⟨rfl, rfl⟩
  go_wp2_with fail
  go_ret
  exact ⟨rfl, (Fr.refl _ _).alloc _⟩
theorem below_dm (b : Nat) (s : SS) (eb ec : Int) (ed : ByteArray) (w : World) (h : SM X w b s) (hn : s.theirs.length < 900000) (hm : 0 ≤ s.m ∧ s.m < 999999) (hj : s.major = 0) (hw : s.wt = false) :
    Calls Try.prog 26 #[.pointer (some ⟨b, 0, none⟩), (Ev.mk 1 1 s.m eb ec ed).val] w fun e w' => (∃ v, e = .returned v ∧ EvRes w.heap.size w' v [⟨0, 1, s.m, 0, 0, ByteArray.empty⟩]) ∧ SM X w' b { s with m := s.m + 1, theirs := s.theirs ++ [s.m] } ∧ Fr [b] w w' := by
  dsimp only [Ev.val]
  obtain ⟨wb, hwb⟩ : ∃ x, w.alloc (.cells #[.int .i64 1, .int .i64 1, .int .i64 s.m, .int .i64 eb, .int .i64 ec, .string ed] TEv) = x := ⟨_, rfl⟩
  have PB := Pt.newA w TEv #[.int .i64 1, .int .i64 1, .int .i64 s.m, .int .i64 eb, .int .i64 ec, .string ed]
  rw [hwb] at PB
  have FB : Fr [] w wb := by rw [← hwb]; exact (Fr.refl [] w).alloc _
  obtain ⟨bx, hbx⟩ : ∃ x, w.heap.size = x := ⟨_, rfl⟩
  rw [hbx] at PB
  have cb := PB.cell
  have hS := h.fr FB
  have hlt : b < bx := by obtain ⟨_, _, hp, _⟩ := h; have := hp.lt; omega
  replace hS := Lib.hid hS; replace PB := Lib.hid PB; replace FB := Lib.hid FB
  clear h
  go_enter Try.func26, Try.ntmps26
  go_wp2_with fail
  refine (told_any 9 s.m 0 wb).mono ?_
  rintro e w1 ⟨⟨v1, rfl, hv1⟩, f1⟩
  obtain ⟨vo, vt, hp, ho, ht⟩ := hS.out.fr f1
  have hS1 := Lib.hid (hS.out.fr f1)
  have PB1 := f1.pt PB.out (by simp)
  have cs := hp.cell
  have c1 := PB1.cell
  simp only [SS.cells, hj, hw] at cs
  have hmm : (s.m != s.m) = false := by simp
  have hmm2 : decide (999999 ≤ s.m) = false := decide_eq_false (by omega)
  have hmm3 : ¬ (999999 ≤ s.m) := by omega
  replace hp := Lib.hid hp; replace ho := Lib.hid ho; replace ht := Lib.hid ht; replace PB1 := Lib.hid PB1; replace f1 := Lib.hid f1
  clear hv1 cb
  go_wp2_with fail
  go_quiet (fail)
  go_wp2_with fail
  have C := Lib.hid (point_theirs b s (w1.drewN nq).drew (hS1.out.fr (((Fr.refl [] w1).drewN nq).drew)) hn hm)
  have PBq := (((Fr.refl [] w1).drewN nq).drew).pt PB1.out (by simp)
  have hS00 := PBq.cell 1
  have hSq : ∀ w', Fr [b] (w1.drewN nq).drew w' → w'.cell? ⟨bx, 1, none⟩ = some (.int .i64 1) := fun w' hf => (hf.pt PBq (by simp; omega)).cell 1
  replace hSq := Lib.hid hSq; replace PBq := Lib.hid PBq
  go_region_held3 (fun w' => w'.cell? ⟨bx, 1, none⟩ = some (.int .i64 1)) (first | exact hS00 | exact hSq.out _ f3.out) (first | (go_at_call 38; refine C.out.mono ?_; rintro e w3 ⟨rfl, hS3, f3⟩; replace hS3 := Lib.hid hS3; replace f3 := Lib.hid f3))
  have PB3 := f3.out.pt PBq.out (by simp; omega)
  have c3 := PB3.cell
  have FA : Fr [b] w w3 := (FB.out.mono (by simp)).trans ((f1.out.mono (by simp)).trans (((((Fr.refl [b] w1).drewN nq).drew)).trans f3.out))
  replace FA := Lib.hid FA; replace PB3 := Lib.hid PB3
  clear c1 cs
  go_wp2_with fail
  refine (told_any 1 s.m 0 w3).mono ?_
  rintro e w4 ⟨⟨v4, rfl, hv4⟩, f4⟩
  have FIN := FA.out.trans (f4.mono (by simp))
  have S4 := hS3.out.fr f4
  have V4 := hv4.le FA.out.size
  clear hv4 c3
  go_wp2
  go_ret
  exact ⟨⟨_, rfl, V4⟩, S4, FIN⟩
/-- On, a point of the other side's. -/
theorem on_dm (b : Nat) (s : SS) (eb ec : Int) (ed : ByteArray) (w : World) (h : SM X w b s) (hmade : s.made = true) (hn : s.theirs.length < 900000) (hm : 0 ≤ s.m ∧ s.m < 999999) (hj : s.major = 0) (hw : s.wt = false) :
    Calls Try.prog 13 #[.pointer (some ⟨b, 0, none⟩), (Ev.mk 1 1 s.m eb ec ed).val] w fun e w' => (∃ v, e = .returned (.tuple #[v, .int .i64 0]) ∧ EvRes w.heap.size w' v [⟨0, 1, s.m, 0, 0, ByteArray.empty⟩]) ∧ SM X w' b { s with m := s.m + 1, theirs := s.theirs ++ [s.m] } ∧ Fr [b] w w' := by
  have AS := Lib.hid (fun w => asks_dm s.m eb ec ed w (by omega))
  have BE := Lib.hid (fun w h => below_dm (X := X) b s eb ec ed w h hn hm hj hw)
  have NO := Lib.hid (fun w h => none_any (X := X) b s w h)
  dsimp only [Ev.val] at AS BE ⊢
  obtain ⟨wb, hwb⟩ : ∃ x, w.alloc (.cells #[.int .i64 1, .int .i64 1, .int .i64 s.m, .int .i64 eb, .int .i64 ec, .string ed] TEv) = x := ⟨_, rfl⟩
  have PB := Pt.newA w TEv #[.int .i64 1, .int .i64 1, .int .i64 s.m, .int .i64 eb, .int .i64 ec, .string ed]
  rw [hwb] at PB
  have FB : Fr [] w wb := by rw [← hwb]; exact (Fr.refl [] w).alloc _
  obtain ⟨bx, hbx⟩ : ∃ x, w.heap.size = x := ⟨_, rfl⟩
  rw [hbx] at PB
  have cb := PB.cell
  have hS := h.fr FB
  replace hS := Lib.hid hS; replace PB := Lib.hid PB; replace FB := Lib.hid FB
  clear h
  go_enter Try.func13, Try.ntmps13
  go_wp2_with fail
  refine (NO.out wb hS.out).mono ?_
  rintro e w1 ⟨rfl, rfl⟩
  go_wp2_with fail
  refine (AS.out _).mono ?_
  rintro e w1 ⟨rfl, f1⟩
  have PB1 := f1.pt PB.out (by simp)
  have c1 := PB1.cell
  have S1 := hS.out.fr f1
  have F1 := FB.out.trans f1
  replace S1 := Lib.hid S1; replace F1 := Lib.hid F1; replace PB1 := Lib.hid PB1
  clear cb f1
  go_wp2_with fail
  refine (BE.out _ S1.out).mono ?_
  rintro e w2 ⟨⟨v2, rfl, hv2⟩, S2, f2⟩
  have F2 := (F1.out.mono (by simp)).trans f2
  have V2 := hv2.le F1.out.size
  clear c1 f2 hv2
  go_wp2
  go_ret2
  exact ⟨⟨_, rfl, V2⟩, S2, F2⟩
theorem user_uc (b : Nat) (s : SS) (n eb ec : Int) (ed : ByteArray) (w : World) (h : SM X w b s) (hn : s.own.length < 1000000 ∧ s.theirs.length < 1000000) (h0 : 0 ≤ n ∧ n ≤ 999999) (hmem : n ∈ s.theirs) (hw : s.wt = false) (hk : s.kt = false) :
    Calls Try.prog 25 #[.pointer (some ⟨b, 0, none⟩), (Ev.mk 0 2 n eb ec ed).val] w fun e w' => (∃ v, e = .returned (.tuple #[v, .int .i64 0]) ∧ EvRes w.heap.size w' v [⟨1, 2, n, 0, 0, ByteArray.empty⟩]) ∧ SM X w' b (SS.pruned { s with a := n + 1 }) ∧ Fr [b] w w' := by
  dsimp only [Ev.val]
  obtain ⟨wb, hwb⟩ : ∃ x, w.alloc (.cells #[.int .i64 0, .int .i64 2, .int .i64 n, .int .i64 eb, .int .i64 ec, .string ed] TEv) = x := ⟨_, rfl⟩
  have PB := Pt.newA w TEv #[.int .i64 0, .int .i64 2, .int .i64 n, .int .i64 eb, .int .i64 ec, .string ed]
  rw [hwb] at PB
  have FB : Fr [] w wb := by rw [← hwb]; exact (Fr.refl [] w).alloc _
  obtain ⟨bx, hbx⟩ : ∃ x, w.heap.size = x := ⟨_, rfl⟩
  rw [hbx] at PB
  have cb := PB.cell
  have hS := h.fr FB
  have hlt : b < bx := by obtain ⟨_, _, hp, _⟩ := h; have := hp.lt; omega
  have hS' := hS
  obtain ⟨vo, vt, hp, ho, ht⟩ := hS'
  have cs := hp.cell
  simp only [SS.cells, hk, hw] at cs
  have CT := Lib.hid (fun k => contains_any vt s.theirs n (wb.drewN k) b (ht.fr ((Fr.refl [] wb).drewN k) (by simp)) hn.2)
  rw [decide_eq_true hmem] at CT
  replace hS := Lib.hid hS; replace PB := Lib.hid PB; replace FB := Lib.hid FB; replace hp := Lib.hid hp; replace ho := Lib.hid ho; replace ht := Lib.hid ht
  clear h
  go_enter Try.func25, Try.ntmps25
  go_wp2_with fail
  go_quiet (first | (go_at_call 40; exact Calls.quiet_of_same ((CT.out _).mono fun _ _ h => ⟨h.1, h.2.symm⟩)))
  obtain ⟨wq, hwq⟩ : ∃ x, wb.drewN nq = x := ⟨_, rfl⟩
  have FQ : Fr [] wb wq := by rw [← hwq]; exact (Fr.refl [] wb).drewN nq
  rw [hwq]
  have SQ := hS.out.fr FQ
  have PQ := FQ.pt PB.out (by simp)
  have cq := PQ.cell
  have CF := Lib.hid (confirm_any b s n wq SQ hn h0)
  have F0 := FB.out.trans FQ
  replace SQ := Lib.hid SQ; replace PQ := Lib.hid PQ; replace FQ := Lib.hid FQ; replace F0 := Lib.hid F0
  clear cb cs hwq
  go_wp2_with fail
  refine CF.out.mono ?_
  rintro e w2 ⟨rfl, S2, f2⟩
  have P2 := f2.pt PQ.out (by simp; omega)
  have c2 := P2.cell
  have F2 := (F0.out.mono (by simp)).trans f2
  replace S2 := Lib.hid S2; replace F2 := Lib.hid F2; replace P2 := Lib.hid P2
  clear cq f2
  go_wp2_with fail
  refine (sent_any 2 n 0 w2).mono ?_
  rintro e w3 ⟨⟨v3, rfl, hv3⟩, f3⟩
  have F3 := F2.out.trans (f3.mono (by simp))
  have S3 := S2.out.fr f3
  have V3 := hv3.le F2.out.size
  clear c2 hv3 f3
  go_wp2
  go_ret2
  exact ⟨⟨_, rfl, V3⟩, S3, F3⟩
theorem on_uc (b : Nat) (s : SS) (n eb ec : Int) (ed : ByteArray) (w : World) (h : SM X w b s) (hmade : s.made = true) (hn : s.own.length < 1000000 ∧ s.theirs.length < 1000000) (h0 : 0 ≤ n ∧ n ≤ 999999) (hmem : n ∈ s.theirs) (hw : s.wt = false) (hk : s.kt = false) :
    Calls Try.prog 13 #[.pointer (some ⟨b, 0, none⟩), (Ev.mk 0 2 n eb ec ed).val] w fun e w' => (∃ v, e = .returned (.tuple #[v, .int .i64 0]) ∧ EvRes w.heap.size w' v [⟨1, 2, n, 0, 0, ByteArray.empty⟩]) ∧ SM X w' b (SS.pruned { s with a := n + 1 }) ∧ Fr [b] w w' := by
  have AS := Lib.hid (fun w => asks_uc n eb ec ed w h0)
  have BE := Lib.hid (fun w h => user_uc (X := X) b s n eb ec ed w h hn h0 hmem hw hk)
  have NO := Lib.hid (fun w h => none_any (X := X) b s w h)
  dsimp only [Ev.val] at AS BE ⊢
  obtain ⟨wb, hwb⟩ : ∃ x, w.alloc (.cells #[.int .i64 0, .int .i64 2, .int .i64 n, .int .i64 eb, .int .i64 ec, .string ed] TEv) = x := ⟨_, rfl⟩
  have PB := Pt.newA w TEv #[.int .i64 0, .int .i64 2, .int .i64 n, .int .i64 eb, .int .i64 ec, .string ed]
  rw [hwb] at PB
  have FB : Fr [] w wb := by rw [← hwb]; exact (Fr.refl [] w).alloc _
  obtain ⟨bx, hbx⟩ : ∃ x, w.heap.size = x := ⟨_, rfl⟩
  rw [hbx] at PB
  have cb := PB.cell
  have hS := h.fr FB
  replace hS := Lib.hid hS; replace PB := Lib.hid PB; replace FB := Lib.hid FB
  clear h
  go_enter Try.func13, Try.ntmps13
  go_wp2_with fail
  refine (NO.out wb hS.out).mono ?_
  rintro e w1 ⟨rfl, rfl⟩
  go_wp2_with fail
  refine (AS.out _).mono ?_
  rintro e w1 ⟨rfl, f1⟩
  have PB1 := f1.pt PB.out (by simp)
  have c1 := PB1.cell
  have S1 := hS.out.fr f1
  have F1 := FB.out.trans f1
  replace S1 := Lib.hid S1; replace F1 := Lib.hid F1; replace PB1 := Lib.hid PB1
  clear cb f1
  go_wp2_with fail
  refine (BE.out _ S1.out).mono ?_
  rintro e w2 ⟨⟨v2, rfl, hv2⟩, S2, f2⟩
  have F2 := (F1.out.mono (by simp)).trans f2
  have V2 := hv2.le F1.out.size
  clear c1 f2 hv2
  go_wp2
  go_ret2
  exact ⟨⟨_, rfl, V2⟩, S2, F2⟩
/-- A new side. -/
theorem new_ok (X : List Nat) (f : Bool) (n : Int) (w : World) (h0 : 0 ≤ n ∧ n ≤ 999999) (hX : w.heap.size ∈ X ∧ ∀ y ∈ X, y ≤ w.heap.size) :
    Calls Try.prog 9 #[.bool f, .int .i64 n] w fun e w' => e = .returned (.tuple #[.pointer (some ⟨w.heap.size, 0, none⟩), .int .i64 0]) ∧ SM X w' w.heap.size ⟨true, f, n, n, n, 0, [], [], false, 0, 0, false, 0, 0⟩ ∧ Fr [] w w' := by
  have h1 : ¬ n < 0 := by omega
  have h2 : ¬ 999999 < n := by omega
  go_enter Try.func9, Try.ntmps9
  go_wp2_with fail
  go_ret2
  exact ⟨rfl, ⟨.slice none 0 0, .slice none 0 0, Pt.newA _ _ _, IR.nil _ _ ⟨hX.1, fun y hy => by have := hX.2 y hy; simp; omega⟩, IR.nil _ _ ⟨hX.1, fun y hy => by have := hX.2 y hy; simp; omega⟩⟩, (Fr.refl _ _).alloc _⟩
theorem numbers_any (b : Nat) (s : SS) (w : World) (h : SM X w b s) (hm : s.made = true) :
    Calls Try.prog 11 #[.pointer (some ⟨b, 0, none⟩)] w fun e w' => e = .returned (.tuple #[.int .i64 s.m, .int .i64 s.a, .int .i64 s.r]) ∧ Fr [] w w' := by
  have NO := Lib.hid (none_any b s w h)
  rw [hm] at NO
  obtain ⟨vo, vt, hp, ho, ht⟩ := h
  have hc := hp.cell
  simp only [SS.cells] at hc
  clear hp ho ht
  go_enter Try.func11, Try.ntmps11
  go_wp2_with fail
  refine NO.out.mono ?_
  rintro e w1 ⟨rfl, rfl⟩
  go_wp2_with fail
  go_quiet (fail)
  go_wp2
  refine bodyPost_ret (v := .tuple #[.int .i64 s.m, .int .i64 s.a, .int .i64 s.r]) (by simp [results, Try.results11, go_sem]) rfl ⟨rfl, (Fr.refl _ _).drewN _⟩
end Go.Proofs.Ytjgmlnkbplgloaa
