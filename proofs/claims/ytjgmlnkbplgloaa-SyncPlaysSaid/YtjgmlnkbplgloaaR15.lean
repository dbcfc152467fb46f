import Derived.Test.YtjgmlnkbplgloaaR14
import Derived.Outline
import Derived.Deep.LoopGhost
import Derived.Deep.Cut
import Derived.Deep.CutRange
namespace Go.Proofs.Ytjgmlnkbplgloaa
open Go.RowKit
set_option linter.unusedVariables false
set_option linter.unusedSimpArgs false
set_option maxHeartbeats 16000000
set_option maxRecDepth 20000
theorem plays_out (f : Bool) (N : Int) (dv : Value) (es : List Ev) (w : World) (hD : EvArg w dv es) (hx : 400 < es.length) :
    Calls Try.prog 4 #[.bool f, .int .i64 N, dv] w fun e w' => e = .returned (.bool true) ∧ Fr [] w w' := by
  obtain ⟨o, cap, rfl, hl⟩ := hD
  clear hl
  have g : (400 : Int) < es.length := by omega
  go_enter Try.func4, Try.ntmps4
  go_wp2_with fail
  refine (sane_any _).mono ?_
  rintro e w1 ⟨rfl, f1⟩
  go_wp2_with fail
  go_ret
  exact ⟨rfl, f1⟩
theorem plays_bad (f : Bool) (N : Int) (dv : Value) (es : List Ev) (w : World) (hD : EvArg w dv es) (hx : ¬ 400 < es.length) (hN : N < 0 ∨ 999999 < N) :
    Calls Try.prog 4 #[.bool f, .int .i64 N, dv] w fun e w' => e = .returned (.bool true) ∧ Fr [] w w' := by
  obtain ⟨o, cap, rfl, hl⟩ := hD
  clear hl
  have g : ¬ (400 : Int) < es.length := by omega
  have N1 := Lib.hid (fun w => new_bad f N w hN)
  have N2 := Lib.hid (fun w => rnew_bad f N w hN)
  go_enter Try.func4, Try.ntmps4
  go_wp2_with fail
  refine (N1.out _).mono ?_
  rintro e w1 ⟨rfl, rfl⟩
  go_wp2_with fail
  refine (N2.out _).mono ?_
  rintro e w1 ⟨rfl, rfl⟩
  rcases (by omega : es.length = 0 ∨ 0 < es.length) with c | c
  · have c1 : ¬ (0 : Int) < es.length := by omega
    go_wp2_with fail
    refine wp_loop_once ?_
    go_wp2_with fail
    refine (sane_any _).mono ?_
    rintro e w1 ⟨rfl, f1⟩
    go_wp2_with fail
    go_ret
    exact ⟨rfl, f1⟩
  · have c1 : (0 : Int) < es.length := by omega
    go_wp2_with fail
    refine wp_loop_once ?_
    go_wp2_with fail
    refine (sane_any _).mono ?_
    rintro e w1 ⟨rfl, f1⟩
    go_wp2_with fail
    go_ret
    exact ⟨rfl, f1⟩
/-- The two sides in memory. -/
structure PP (w : World) (bs br : Nat) (s : SS) (r : RS) (bo bt : Option Nat) (k : Nat) : Prop where
  sm : SM (bs :: br :: (bo.toList ++ bt.toList)) w bs s
  rm : RM w br r bo bt
  sim : Sim r s
  sv : SV s
  sj : SJ k s
  ne : bs ≠ br ∧ bs ∉ bo.toList ∧ bs ∉ bt.toList
theorem plays_in (f : Bool) (N : Int) (dv : Value) (es : List Ev) (w : World) (hD : EvArg w dv es) (hx : ¬ 400 < es.length) (hN : 0 ≤ N ∧ N ≤ 999999) :
    Calls Try.prog 4 #[.bool f, .int .i64 N, dv] w fun e w' => e = .returned (.bool true) ∧ Fr [] w w' := by
  obtain ⟨o, cap, rfl, hl⟩ := hD
  have g : ¬ (400 : Int) < es.length := by omega
  have N1 := Lib.hid (new_ok [w.heap.size] f N w hN (by simp))
  have N2 := Lib.hid (fun w => rnew_ok f N w hN)
  replace hl := Lib.hid hl
  go_enter Try.func4, Try.ntmps4
  go_wp2_with fail
  refine N1.out.mono ?_
  rintro e w1 ⟨rfl, S1, f1⟩
  obtain ⟨bs, hbs⟩ : ∃ x, w.heap.size = x := ⟨_, rfl⟩
  rw [hbs] at S1
  simp only [hbs]
  have l1 := S1.av.2 bs (by simp)
  replace S1 := Lib.hid S1; replace f1 := Lib.hid f1
  go_wp2_with fail
  refine (N2.out w1).mono ?_
  rintro e w2 ⟨rfl, R2, f2⟩
  obtain ⟨br, hbr⟩ : ∃ x, w1.heap.size = x := ⟨_, rfl⟩
  rw [hbr] at R2
  simp only [hbr]
  have l2 := R2.lt
  have PP0 : PP w2 bs br ⟨true, f, N, N, N, 0, [], [], false, 0, 0, false, 0, 0⟩ ⟨f, N, N, N, 0, [], [], false, 0, 0, false, 0, 0⟩ none none 0 :=
    ⟨S1.out.go f2 (by simp) (by simp) (by simp; omega) (by simp; omega), R2, ⟨rfl, rfl, rfl, rfl, rfl, rfl, rfl, rfl, rfl, fun _ => ⟨rfl, rfl⟩, fun _ => ⟨rfl, rfl⟩⟩, ⟨⟨hN.1, Int.le_refl _, Int.le_refl _⟩, by simp, by simp, by simp⟩, ⟨rfl, hN, .inl rfl, by simp, by simp⟩, by omega, by simp, by simp⟩
  have F0 : Fr [] w w2 := f1.out.trans f2
  replace PP0 := Lib.hid PP0; replace F0 := Lib.hid F0; replace R2 := Lib.hid R2; replace f2 := Lib.hid f2
  go_wp2_with fail
  go_loopg [11] (es.length + 1) (fun k v wr => ∃ (i : Nat) (s : SS) (r : RS) (bo bt : Option Nat), i ≤ es.length ∧ k + i = es.length + 1 ∧ v = .int .i64 i ∧ PP wr bs br s r bo bt i ∧ (∀ z ∈ bs :: br :: (bo.toList ++ bt.toList), w.heap.size ≤ z) ∧ Fr [] w wr)
  case atStart => exact ⟨0, _, _, none, none, by omega, by omega, rfl, PP0.out, by simp; omega, F0.out⟩
  case round =>
    obtain ⟨i, s, r, bo, bt, hi, hk, rfl, hP, hge, hF⟩ := hrel
    by_cases hlt : i < es.length
    · have hltI : (i : Int) < es.length := by omega
      obtain ⟨be, off, rfl, hbe, hc⟩ := hl.out i hlt
      obtain ⟨ev, hev⟩ : ∃ ev, es[i] = ev := ⟨_, rfl⟩
      rw [hev] at hc
      have hC := fun w' (f : Fr [] w w') => (fun j (hj : j < 6) => by rw [f.cell (p := ⟨be, off + i * 6 + j, none⟩) hbe (by simp)]; exact hc j hj : ∀ j, j < 6 → w'.cell? ⟨be, off + i * 6 + j, none⟩ = ev.cells[j]?)
      have hI : SI s := hP.sj.si (by omega)
      have CP := Lib.hid (copy_side bs s wr hP.sm hI.made ⟨by have := hI.own; omega, by have := hI.theirs; omega⟩)
      replace hP := Lib.hid hP; replace hge := Lib.hid hge; replace hF := Lib.hid hF; replace hC := Lib.hid hC; replace hI := Lib.hid hI
      clear hc
      go_wp2_with fail
      refine CP.out.mono ?_
      rintro e w3 ⟨b2, rfl, hb2, S2, f3⟩
      have X1lt := hP.out.sm.av.2
      obtain ⟨X1, hX1⟩ : ∃ X, X = b2 :: bs :: br :: (bo.toList ++ bt.toList) := ⟨_, rfl⟩
      have hX1lt : ∀ y ∈ X1, y ≤ b2 := fun y hy => by
        rw [hX1] at hy
        rcases List.mem_cons.mp hy with h | h
        · omega
        · have := X1lt y h; omega
      have m1 : bs ∈ X1 := by rw [hX1]; simp
      have m2 : b2 ∈ X1 := by rw [hX1]; simp
      have S2' := S2 X1 m2 hX1lt
      have S1' : SM X1 w3 bs s := hP.out.sm.go f3 (by simp) m1 S2'.av.2 (fun y hy => by
        rw [hX1] at hy
        rcases List.mem_cons.mp hy with h | h
        · right; omega
        · left; exact h)
      have R3 := hP.out.rm.fr0 f3
      have F3 := hF.out.trans f3
      have lbs := X1lt bs (by simp)
      have ON1 := Lib.hid (on_any bs s ev w3 S1' hI.out)
      have c3 := hC.out w3 F3
      obtain ⟨way, kind, ea, eb, ec, ed⟩ := ev
      have d0 := c3 0 (by omega); have d1 := c3 1 (by omega); have d2 := c3 2 (by omega); have d3 := c3 3 (by omega); have d4 := c3 4 (by omega); have d5 := c3 5 (by omega)
      simp only [Ev.cells, Nat.add_zero, List.getElem?_cons_zero, List.getElem?_cons_succ] at d0 d1 d2 d3 d4 d5
      obtain ⟨O, hO⟩ : ∃ O, onS s ⟨way, kind, ea, eb, ec, ed⟩ = O := ⟨_, rfl⟩
      have RON := fun w' (hr : RM w' br r bo bt) => ron_any br r s bo bt ⟨way, kind, ea, eb, ec, ed⟩ w' hr hP.out.sim hP.out.sv hI.out
      have ON2 := fun {X : List Nat} w' (h : SM X w' b2 s) => on_any b2 s ⟨way, kind, ea, eb, ec, ed⟩ w' h hI.out
      have SVn := hP.out.sv.on hI.out.m0 ⟨way, kind, ea, eb, ec, ed⟩
      have SJn := hP.out.sj.on ⟨way, kind, ea, eb, ec, ed⟩
      rw [hO] at ON1 SVn SJn
      simp only [hO] at RON ON2
      obtain ⟨s', L, c⟩ := O
      dsimp only [Ev.val] at ON1 SVn SJn RON ON2
      replace S1' := Lib.hid S1'; replace S2' := Lib.hid S2'; replace S2 := Lib.hid S2; replace R3 := Lib.hid R3; replace F3 := Lib.hid F3; replace f3 := Lib.hid f3; replace hX1 := Lib.hid hX1; replace hX1lt := Lib.hid hX1lt; replace X1lt := Lib.hid X1lt; replace RON := Lib.hid RON; replace SVn := Lib.hid SVn; replace SJn := Lib.hid SJn; replace hO := Lib.hid hO; replace hev := Lib.hid hev
      have ON2' : Hid (∀ (X : List Nat) w', SM X w' b2 s → Calls Try.prog 13 #[.pointer (some ⟨b2, 0, none⟩), .agg #[.int .i64 way, .int .i64 kind, .int .i64 ea, .int .i64 eb, .int .i64 ec, .string ed]] w' (OnR X b2 w' s' L c)) := fun X w' h => ON2 w' h
      clear ON2 c3
      go_wp2_with fail
      refine ON1.out.mono ?_
      rintro e w4 ⟨⟨v1, rfl, hv1⟩, S4, f4⟩
      have hne := hP.out.ne
      have hXl := X1lt.out
      have lw3 : wr.heap.size ≤ w3.heap.size := f3.out.size
      have F4 : Fr [] w w4 := F3.out.step f4 (by intro z hz; right; rw [List.mem_singleton.mp hz]; exact hge.out bs (by simp))
      have R4 : RM w4 br r bo bt := R3.out.fr f4 ⟨by simp; exact fun h => hne.1 h.symm, fun z hz hm => hne.2.1 (by rw [List.mem_singleton.mp hm] at hz; simp [hz]), fun z hz hm => hne.2.2 (by rw [List.mem_singleton.mp hm] at hz; simp [hz])⟩
      have S4b : SM X1 w4 b2 s := S2'.out.go f4 (by intro z hz; rw [List.mem_singleton.mp hz]; exact ⟨m1, by omega⟩) m2 (fun y hy => Nat.lt_of_lt_of_le (S2'.out.av.2 y hy) f4.size) (fun y hy => .inl hy)
      have c4 := hC.out w4 F4
      have g0 := c4 0 (by omega); have g1 := c4 1 (by omega); have g2 := c4 2 (by omega); have g3 := c4 3 (by omega); have g4 := c4 4 (by omega); have g5 := c4 5 (by omega)
      simp only [Ev.cells, Nat.add_zero, List.getElem?_cons_zero, List.getElem?_cons_succ] at g0 g1 g2 g3 g4 g5
      have RO := Lib.hid (RON.out w4 R4)
      have lw4 := f4.size
      replace hv1 := Lib.hid hv1; replace S4 := Lib.hid S4; replace f4 := Lib.hid f4; replace hne := Lib.hid hne; replace hXl := Lib.hid hXl; replace F4 := Lib.hid F4; replace R4 := Lib.hid R4; replace S4b := Lib.hid S4b
      clear c4 d0 d1 d2 d3 d4 d5
      go_wp2_with fail
      refine RO.out.mono ?_
      rintro e w5 ⟨r', SI5, ⟨v2, rfl, hv2⟩, ⟨bo', bt', R5, n1, n2⟩, f5⟩
      have hexl : ∀ x ∈ br :: (bo.toList ++ bt.toList), x < wr.heap.size := fun x hx => hXl.out x (by simp at hx ⊢; rcases hx with h | h | h <;> simp [h])
      have F5 : Fr [] w w5 := F4.out.step f5 (by intro z hz; right; exact hge.out z (by simp at hz ⊢; rcases hz with h | h | h <;> simp [h]))
      have E1 : EvRes w3.heap.size w5 v1 L := hv1.out.fr2 f5 (fun x hx => by have := hexl x hx; omega)
      obtain ⟨X2, hX2⟩ : ∃ X, X = b2 :: bs :: br :: (bo'.toList ++ bt'.toList) := ⟨_, rfl⟩
      have lrow : (∀ z, bo' = some z → z < w5.heap.size) ∧ ∀ z, bt' = some z → z < w5.heap.size := by
        obtain ⟨_, _, _, q1, q2, _, _⟩ := R5
        exact ⟨fun z hz => by subst hz; exact q1.lt, fun z hz => by subst hz; exact q2.lt⟩
      have lw5 := f5.size
      have lbr := R4.out.lt
      have lb2 := S4b.out.av.2 b2 m2
      have lbs4 := S4b.out.av.2 bs m1
      have hX2lt : ∀ y ∈ X2, y < w5.heap.size := fun y hy => by
        rw [hX2] at hy
        simp only [List.mem_cons, List.mem_append, Option.mem_toList] at hy
        rcases hy with h | h | h | h | h
        · omega
        · omega
        · omega
        · exact lrow.1 y h
        · exact lrow.2 y h
      have hX2n : ∀ y ∈ X2, y ∈ X1 ∨ w4.heap.size ≤ y := fun y hy => by
        rw [hX2] at hy; rw [hX1.out]
        simp only [List.mem_cons, List.mem_append, Option.mem_toList] at hy ⊢
        rcases hy with h | h | h | h | h
        · left; simp [h]
        · left; simp [h]
        · left; simp [h]
        · rcases n1 y h with h | h
          · left; simp [h]
          · right; exact h
        · rcases n2 y h with h | h
          · left; simp [h]
          · right; exact h
      have hex1 : ∀ z ∈ br :: (bo.toList ++ bt.toList), z ∈ X1 := fun z hz => by rw [hX1.out]; simp at hz ⊢; rcases hz with h | h | h <;> simp [h]
      have S5 : SM X2 w5 bs s' := S4.out.go f5 (fun z hz => ⟨hex1 z hz, fun h => by
        subst h
        simp only [List.mem_cons, List.mem_append] at hz
        rcases hz with h | h | h
        · exact hne.out.1 h
        · exact hne.out.2.1 h
        · exact hne.out.2.2 h⟩) (by rw [hX2]; simp) hX2lt hX2n
      have S5b : SM X2 w5 b2 s := S4b.out.go f5 (fun z hz => ⟨hex1 z hz, fun h => by have := hexl z hz; omega⟩) (by rw [hX2]; simp) hX2lt hX2n
      have hcc : (c != c) = false := by simp
      have EV1 := Lib.hid (events_same _ _ v1 v2 L w5 E1 hv2)
      have hmade : s'.made = true := SJn.out.made
      have b2o : (∀ z, bo' = some z → z ≠ b2) ∧ ∀ z, bt' = some z → z ≠ b2 := ⟨fun z hz h => by
        subst h
        rcases n1 _ hz with h | h
        · have := hexl z (by simp [h]); omega
        · omega, fun z hz h => by
        subst h
        rcases n2 _ hz with h | h
        · have := hexl z (by simp [h]); omega
        · omega⟩
      have bso : bs ∉ bo'.toList ∧ bs ∉ bt'.toList := ⟨fun h => by
        rcases n1 bs (by simpa using h) with h | h
        · exact hne.out.2.1 (by simp [h])
        · omega, fun h => by
        rcases n2 bs (by simpa using h) with h | h
        · exact hne.out.2.2 (by simp [h])
        · omega⟩
      have hge2 : ∀ z ∈ bs :: br :: (bo'.toList ++ bt'.toList), w.heap.size ≤ z := fun z hz => by
        simp only [List.mem_cons, List.mem_append, Option.mem_toList] at hz
        have lww := F4.out.size
        rcases hz with h | h | h | h
        · rw [h]; exact hge.out bs (by simp)
        · rw [h]; exact hge.out br (by simp)
        · rcases n1 z h with h | h
          · exact hge.out z (by simp [h])
          · omega
        · rcases n2 z h with h | h
          · exact hge.out z (by simp [h])
          · omega
      have hb2r : b2 ≠ br := fun h => by have := hexl br (by simp); omega
      replace hv2 := Lib.hid hv2; replace E1 := Lib.hid E1; replace S5 := Lib.hid S5; replace S5b := Lib.hid S5b; replace R5 := Lib.hid R5; replace SI5 := Lib.hid SI5; replace f5 := Lib.hid f5; replace F5 := Lib.hid F5; replace hX2 := Lib.hid hX2; replace hX2lt := Lib.hid hX2lt; replace hX2n := Lib.hid hX2n; replace hex1 := Lib.hid hex1; replace hexl := Lib.hid hexl; replace n1 := Lib.hid n1; replace n2 := Lib.hid n2; replace lrow := Lib.hid lrow; replace b2o := Lib.hid b2o; replace bso := Lib.hid bso; replace hge2 := Lib.hid hge2; replace hmade := Lib.hid hmade; replace hb2r := Lib.hid hb2r
      clear g0 g1 g2 g3 g4 g5
      go_wp2_with fail
      refine EV1.out.mono ?_
      rintro e w6 ⟨rfl, k6, h6⟩
      have F56 : Fr [] w5 w6 := by rw [h6]; exact (Fr.refl [] w5).drewN k6
      clear h6
      have SA1 := Lib.hid (samesy_any bs br s' r' bo' bt' w6 (S5.out.fr F56) (R5.out.fr0 F56) SI5.out hmade.out)
      replace F56 := Lib.hid F56
      go_wp2_with fail
      refine SA1.out.mono ?_
      rintro e w7 ⟨rfl, f7⟩
      have F57 := F56.out.trans f7
      have F7 := F5.out.trans F57
      have c7 := hC.out w7 F7
      have g0 := c7 0 (by omega); have g1 := c7 1 (by omega); have g2 := c7 2 (by omega); have g3 := c7 3 (by omega); have g4 := c7 4 (by omega); have g5 := c7 5 (by omega)
      simp only [Ev.cells, Nat.add_zero, List.getElem?_cons_zero, List.getElem?_cons_succ] at g0 g1 g2 g3 g4 g5
      have O2 := Lib.hid (ON2'.out X2 w7 (S5b.out.fr F57))
      replace f7 := Lib.hid f7; replace F57 := Lib.hid F57; replace F7 := Lib.hid F7
      clear c7
      go_wp2_with fail
      refine O2.out.mono ?_
      rintro e w8 ⟨⟨v3, rfl, hv3⟩, S8, f8⟩
      have E2 : EvRes w4.heap.size w8 v2 L := (hv2.out.fr2 F57.out (by simp)).fr2 f8 (by simp; omega)
      have EV2 := Lib.hid (events_same _ _ v3 v2 L w8 hv3 E2)
      replace hv3 := Lib.hid hv3; replace E2 := Lib.hid E2; replace S8 := Lib.hid S8; replace f8 := Lib.hid f8
      clear g0 g1 g2 g3 g4 g5
      go_wp2_with fail
      refine EV2.out.mono ?_
      rintro e w9 ⟨rfl, k9, h9⟩
      have F89 : Fr [] w8 w9 := by rw [h9]; exact (Fr.refl [] w8).drewN k9
      clear h9
      have f59 : Fr [b2] w5 w9 := ((F57.out.mono (by simp)).trans f8.out).trans (F89.mono (by simp))
      have R9 : RM w9 br r' bo' bt' := R5.out.fr f59 ⟨by simp; exact fun h => hb2r.out h.symm, fun z hz hm => b2o.out.1 z hz (List.mem_singleton.mp hm), fun z hz hm => b2o.out.2 z hz (List.mem_singleton.mp hm)⟩
      have SA2 := Lib.hid (samesy_any b2 br s' r' bo' bt' w9 (S8.out.fr F89) R9 SI5.out hmade.out)
      have S9 : SM X2 w9 bs s' := S5.out.go f59 (by intro z hz; rw [List.mem_singleton.mp hz]; exact ⟨by rw [hX2.out]; simp, by omega⟩) (by rw [hX2.out]; simp) (fun y hy => Nat.lt_of_lt_of_le (hX2lt.out y hy) f59.size) (fun y hy => .inl hy)
      have F9 : Fr [] w w9 := F5.out.step f59 (by intro z hz; right; rw [List.mem_singleton.mp hz]; have := hF.out.size; omega)
      replace F89 := Lib.hid F89; replace f59 := Lib.hid f59; replace R9 := Lib.hid R9; replace S9 := Lib.hid S9; replace F9 := Lib.hid F9
      go_wp2_with fail
      refine SA2.out.mono ?_
      rintro e w10 ⟨rfl, f10⟩
      have S10 := S9.out.fr f10
      have NU := Lib.hid (numbers_any bs s' w10 S10 hmade.out)
      replace S10 := Lib.hid S10; replace f10 := Lib.hid f10
      go_wp2_with fail
      refine NU.out.mono ?_
      rintro e w11 ⟨rfl, f11⟩
      have o1 : ¬ s'.a < s'.r := by have := SVn.out.ord; omega
      have o2 : ¬ s'.m < s'.a := by have := SVn.out.ord; omega
      have F911 := f10.out.trans f11
      have PPn : PP w11 bs br s' r' bo' bt' (i + 1) :=
        ⟨(S10.out.fr f11).go (Fr.refl [] _) (by simp) (by simp) (fun y hy => by
            refine (S10.out.fr f11).av.2 y ?_
            rw [hX2.out]; exact List.mem_cons_of_mem _ hy) (fun y hy => by left; rw [hX2.out]; exact List.mem_cons_of_mem _ hy), R9.out.fr0 F911, SI5.out, SVn.out, SJn.out, hne.out.1, bso.out.1, bso.out.2⟩
      have Fn := F9.out.trans F911
      replace PPn := Lib.hid PPn; replace Fn := Lib.hid Fn; replace f11 := Lib.hid f11; replace F911 := Lib.hid F911
      go_wp2_with fail
      go_roundg (gk - 1)
      case measure => omega
      case rel => exact ⟨i + 1, s', r', bo', bt', by omega, by omega, by go_num, PPn.out, hge2.out, Fn.out⟩
    · have hie : i = es.length := by omega
      have hltI : ¬ (i : Int) < es.length := by omega
      replace hP := Lib.hid hP; replace hge := Lib.hid hge; replace hF := Lib.hid hF
      go_wp2_with fail
      refine (sane_any _).mono ?_
      rintro e w9 ⟨rfl, f9⟩
      have F9 := Lib.hid (hF.out.trans f9)
      clear f9
      go_wp2_with fail
      go_ret
      exact ⟨rfl, F9.out⟩
theorem plays_any (f : Bool) (N : Int) (dv : Value) (es : List Ev) (w : World) (hD : EvArg w dv es) :
    Calls Try.prog 4 #[.bool f, .int .i64 N, dv] w fun e w' => e = .returned (.bool true) ∧ Fr [] w w' := by
  by_cases hx : 400 < es.length
  · exact plays_out f N dv es w hD hx
  · by_cases hN : 0 ≤ N ∧ N ≤ 999999
    · exact plays_in f N dv es w hD hx hN
    · exact plays_bad f N dv es w hD hx (by omega)
end Go.Proofs.Ytjgmlnkbplgloaa
