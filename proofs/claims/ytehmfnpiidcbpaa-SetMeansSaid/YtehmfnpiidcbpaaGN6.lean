import Derived.Test.YtehmfnpiidcbpaaGN5
import Derived.Test.YtehmfnpiidcbpaaGS10
import Derived.ChangeKeysEq
namespace Go.Proofs.Ytehmfnpiidcbpaa
open Go.RowKit
set_option linter.unusedVariables false
set_option linter.unusedSimpArgs false
set_option maxHeartbeats 16000000
set_option maxRecDepth 100000
/-! ### Pairs, Of, the chapter's example -/
theorem uInt : Try.prog.underlying 3 = some (.int .i64) := by kernel_rfl
noncomputable def iInt : TypeInfo := (Try.prog.info? 3).getD default
theorem infoInt : Try.prog.info? 3 = some iInt := by kernel_rfl
theorem cellsIntA : Try.prog.cellsOf 3 = 1 := by kernel_rfl
theorem uArr2 : Try.prog.underlying 51 = some (.array 2 3) := by kernel_rfl
theorem eq_arr2 (a b c d : Int) (w : World) : (Op.equalIn 10000 51 (.agg #[.int .i64 a, .int .i64 b]) (.agg #[.int .i64 c, .int .i64 d])).run Try.prog w = .ok ((a == c) && (b == d)) w := by
  rw [run_equalIn_array w 9999 _ _ uArr2 infoInt, cellsIntA]
  have p0 : ∀ (x y : Value) (w : World), (part 3 #[x, y] 0).run Try.prog w = .ok x w := fun x y w => by simp [part, run_underlying uInt, go_sem]
  have p1 : ∀ (x y : Value) (w : World), (part 3 #[x, y] 1).run Try.prog w = .ok y w := fun x y w => by simp [part, run_underlying uInt, go_sem]
  simp only [show List.range 2 = [0, 1] from rfl, Op.eqItems, Sem.run_bind, Nat.mul_one, p0, p1, Result.andThen_ok, run_equalIn_int _ _ _ .i64 .i64 _ _ uInt]
  cases h : (a == c) <;> cases h2 : (b == d) <;> simp [h, h2, p1, run_equalIn_int _ _ _ .i64 .i64 _ _ uInt]
/-- Pairs, of a list and itself. -/
theorem pairs_same (v1 v2 : Value) (l : List (Int × Int)) (w : World) (h1 : PIn w v1 l) (h2 : PIn w v2 l) (hn : l.length ≤ 100000) :
    Calls Try.prog 10 #[v1, v2] w fun e w' => e = .returned (.bool true) ∧ Fr [] w w' := by
  obtain ⟨o1, c1, rfl, hl1⟩ := h1
  obtain ⟨o2, c2, rfl, hl2⟩ := h2
  replace hl1 := Lib.hid hl1; replace hl2 := Lib.hid hl2
  go_enter Try.func10, Try.ntmps10
  go_wp2_with fail
  go_loopg [5] (l.length + 1) (fun k v5 wr => ∃ i : Nat, i ≤ l.length ∧ k + i = l.length + 1 ∧ v5 = .int .i64 i ∧ Fr [] w wr)
  case atStart => exact ⟨0, by omega, by omega, rfl, Fr.refl _ _⟩
  case round =>
    obtain ⟨i, hi, hk, rfl, hF⟩ := hrel
    obtain ⟨wi, rfl⟩ : ∃ x : World, x = wr := ⟨_, rfl⟩
    by_cases hlt : i < l.length
    · have hltI : (i : Int) < l.length := by omega
      obtain ⟨B1, f1, rfl, hB1, a1, a2⟩ := hl1.out i hlt
      obtain ⟨B2, f2, rfl, hB2, d1, d2⟩ := hl2.out i hlt
      have x1 := hF.cell (p := ⟨B1, f1 + i * 2, none⟩) hB1 (by simp)
      have x2 := hF.cell (p := ⟨B1, f1 + i * 2 + 1, none⟩) hB1 (by simp)
      have y1 := hF.cell (p := ⟨B2, f2 + i * 2, none⟩) hB2 (by simp)
      have y2 := hF.cell (p := ⟨B2, f2 + i * 2 + 1, none⟩) hB2 (by simp)
      rw [a1] at x1
      rw [a2] at x2
      rw [d1] at y1
      rw [d2] at y2
      obtain ⟨⟨z1, z2⟩, hz⟩ : ∃ x, l[i] = x := ⟨_, rfl⟩
      rw [hz] at x1 x2 y1 y2
      dsimp only at x1 x2 y1 y2
      have heq := fun W => eq_arr2 z1 z2 z1 z2 W
      simp only [beq_self_eq_true, Bool.and_self] at heq
      clear a1 a2 d1 d2
      replace hz := Lib.hid hz; replace hF := Lib.hid hF
      go_wp2_with fail
      go_quiet (fail)
      go_wp2_with fail
      go_roundg (gk - 1)
      case measure => omega
      case rel => exact ⟨i + 1, by omega, by omega, by go_num, hF.out.drewN _⟩
    · have hltI : ¬ (i : Int) < l.length := by omega
      replace hF := Lib.hid hF
      go_wp2_with fail
      go_ret
      exact ⟨rfl, hF.out⟩
/-- What Of answers. -/
def OfP (n : Nd) (c : Int) (l : List (Int × Int)) : Prop := (chkF n ≠ 0 ∧ c = chkF n ∧ l = []) ∨ (chkF n = 0 ∧ ∃ L, VaL n L ∧ (100 < L.length ∧ c = 2 ∧ l = [] ∨ L.length ≤ 100 ∧ c = 0 ∧ l = L))
def OfR (n : Nd) (w : World) (e : Ending) (w' : World) : Prop := ∃ v l c, e = .returned (.tuple #[v, .int .i64 c]) ∧ PIn w' v l ∧ OfP n c l ∧ Fr [] w w'
theorem chk_sh {n : Nd} (h : chkF n = 0) : n.sh = true ∧ n.nodes ≤ 200 ∧ n.deep ≤ 20 := by
  unfold chkF at h
  split at h
  · omega
  · split at h
    · rename_i h1 h2; exact ⟨h2, by omega, by omega⟩
    · omega
theorem Of_any (n : Nd) (w : World) (v : Value) (hN : n.nodes ≤ 100000) (hv : NI w n v) :
    Calls Try.prog 26 #[v] w (OfR n w) := by
  have C := fun W (f : Fr [] w W) => check_any n W v hN (hv.go f)
  have V := fun (h : chkF n = 0) W (f : Fr [] w W) => value_any n.nodes n W v (Nat.le_refl _) (by have := (chk_sh h).2.1; omega) (chk_sh h).1 (hv.go f)
  have OP : ∀ c l, OfP n c l = OfP n c l := fun _ _ => rfl
  obtain ⟨o, cap, rfl, hl⟩ := hv.open
  clear hl hv
  obtain ⟨op, hop⟩ : ∃ x, n.op = x := ⟨_, rfl⟩
  obtain ⟨lo, hlo⟩ : ∃ x, n.lo = x := ⟨_, rfl⟩
  obtain ⟨hi, hhi⟩ : ∃ x, n.hi = x := ⟨_, rfl⟩
  obtain ⟨K, hK⟩ : ∃ x, n.kids.length = x := ⟨_, rfl⟩
  rw [hop, hlo, hhi, hK] at C V ⊢
  obtain ⟨E, hE⟩ : ∃ x, chkF n = x := ⟨_, rfl⟩
  rw [hE] at C V
  clear OP
  obtain ⟨w1, hw1⟩ : ∃ x, w.alloc (.cells #[.int .i64 op, .int .i64 lo, .int .i64 hi, .slice o K cap] 46) = x := ⟨_, rfl⟩
  have P1 := Pt.newA w 46 #[.int .i64 op, .int .i64 lo, .int .i64 hi, .slice o K cap]
  rw [hw1] at P1
  have F1 : Fr [] w w1 := by rw [← hw1]; exact (Fr.refl [] w).alloc _
  obtain ⟨b1, hb1⟩ : ∃ x, w.heap.size = x := ⟨_, rfl⟩
  rw [hb1] at P1
  have k1 := P1.cell
  have C1 := C w1 F1
  by_cases h0 : E = 0
  · subst h0
    replace V := V rfl
    replace C := Lib.hid C; replace C1 := Lib.hid C1; replace V := Lib.hid V; replace P1 := Lib.hid P1; replace F1 := Lib.hid F1; replace hop := Lib.hid hop; replace hlo := Lib.hid hlo; replace hhi := Lib.hid hhi; replace hK := Lib.hid hK; replace hE := Lib.hid hE
    go_enter Try.func26, Try.ntmps26
    go_wp2_with fail
    refine (C1.out).mono ?_
    rintro e w2 ⟨rfl, f2⟩
    have F2 := F1.out.trans f2
    have k2 := (f2.pt P1.out (by simp)).cell
    have V2 := V.out w2 F2
    replace f2 := Lib.hid f2; replace F2 := Lib.hid F2; replace V2 := Lib.hid V2
    go_wp2_with fail
    refine (V2.out).mono ?_
    rintro e w3 ⟨L, v3, rfl, hL, p3, f3⟩
    have F3 := F2.out.trans f3
    have p3 := p3.pin
    by_cases hl : L.length ≤ 100
    · have LM := limited_ok v3 L w3 p3 hl
      have GO : OfP n 0 L := .inr ⟨hE.out, L, hL, .inr ⟨hl, rfl, rfl⟩⟩
      replace hL := Lib.hid hL; replace p3 := Lib.hid p3; replace f3 := Lib.hid f3; replace F3 := Lib.hid F3; replace LM := Lib.hid LM; replace GO := Lib.hid GO
      go_wp2_with fail
      refine (LM.out).mono ?_
      rintro e w4 ⟨rfl, rfl⟩
      go_wp2_with fail
      go_ret2
      exact ⟨_, _, _, rfl, p3.out, GO.out, F3.out⟩
    · have LM := limited_no v3 L w3 p3 (by omega)
      have GO : OfP n 2 [] := .inr ⟨hE.out, L, hL, .inl ⟨by omega, rfl, rfl⟩⟩
      replace hL := Lib.hid hL; replace p3 := Lib.hid p3; replace f3 := Lib.hid f3; replace F3 := Lib.hid F3; replace LM := Lib.hid LM; replace GO := Lib.hid GO
      go_wp2_with fail
      refine (LM.out).mono ?_
      rintro e w4 ⟨rfl, rfl⟩
      go_wp2_with fail
      go_ret2
      exact ⟨_, [], _, rfl, PIn.nil _, GO.out, F3.out⟩
  · have GO : OfP n E [] := .inl ⟨by rw [hE]; exact h0, hE.symm, rfl⟩
    have b0 : (E == 0) = false := by simpa using h0
    have b1' : (E != 0) = true := by simpa using h0
    replace C := Lib.hid C; replace C1 := Lib.hid C1; replace V := Lib.hid V; replace P1 := Lib.hid P1; replace F1 := Lib.hid F1; replace hop := Lib.hid hop; replace hlo := Lib.hid hlo; replace hhi := Lib.hid hhi; replace hK := Lib.hid hK; replace hE := Lib.hid hE; replace GO := Lib.hid GO
    clear h0
    go_enter Try.func26, Try.ntmps26
    go_wp2_with fail
    refine (C1.out).mono ?_
    rintro e w2 ⟨rfl, f2⟩
    have F2 := F1.out.trans f2
    replace f2 := Lib.hid f2; replace F2 := Lib.hid F2
    go_wp2_with fail
    go_ret2
    exact ⟨_, [], _, rfl, PIn.nil _, GO.out, F2.out⟩
def exN : Nd := .mk 3 0 0 [.mk 0 1 5 [], .mk 0 3 3 []]
theorem exN_chk : chkF exN = 0 := by
  have h1 : exN.nodes = 3 := rfl
  have h2 : exN.deep = 2 := rfl
  have h3 : exN.sh = true := by simp [exN, Nd.sh, shL]
  unfold chkF
  rw [h1, h2, h3, if_neg (by omega), if_pos rfl]
theorem exN_hold (x : Int) : exN.hold x = true ↔ (1 ≤ x ∧ x ≤ 5) ∧ ¬ (3 ≤ x ∧ x ≤ 3) := by
  simp [exN, Nd.hold, holdL]
  omega
theorem exL_nf : Nf [(1, 2), (4, 5)] := ⟨by simp, by simp⟩
theorem exL_eq {L : List (Int × Int)} (h : VaL exN L) : L = [(1, 2), (4, 5)] := by
  refine Nf.ext h.nf exL_nf fun x => ?_
  rw [h.num, exN_hold, inS_cons, inS_one]
  dsimp only
  omega
theorem ret_bt {b : Bool} (h : b = true) : Ending.returned (.bool b) = .returned (.bool true) := by rw [h]
theorem sane_any (w : World) : Calls Try.prog 8 #[] w fun e w' => e = .returned (.bool true) ∧ Fr [] w w' := by
  obtain ⟨w1, hw1⟩ : ∃ x, w.alloc (.cells #[.int .i64 0, .int .i64 1, .int .i64 5, .slice none 0 0, .int .i64 0, .int .i64 3, .int .i64 3, .slice none 0 0] 46) = x := ⟨_, rfl⟩
  have P1 := Pt.newA w 46 #[.int .i64 0, .int .i64 1, .int .i64 5, .slice none 0 0, .int .i64 0, .int .i64 3, .int .i64 3, .slice none 0 0]
  rw [hw1] at P1
  have F1 : Fr [] w w1 := by rw [← hw1]; exact (Fr.refl [] w).alloc _
  obtain ⟨b1, hb1⟩ : ∃ x, w.heap.size = x := ⟨_, rfl⟩
  rw [hb1] at P1
  obtain ⟨w2, hw2⟩ : ∃ x, w1.alloc (.cells #[.int .i64 3, .int .i64 0, .int .i64 0, .slice (some ⟨b1, 0, none⟩) 2 2] 46) = x := ⟨_, rfl⟩
  have P2 := Pt.newA w1 46 #[.int .i64 3, .int .i64 0, .int .i64 0, .slice (some ⟨b1, 0, none⟩) 2 2]
  rw [hw2] at P2
  have F2 : Fr [] w1 w2 := by rw [← hw2]; exact (Fr.refl [] w1).alloc _
  obtain ⟨b2, hb2⟩ : ∃ x, w1.heap.size = x := ⟨_, rfl⟩
  rw [hb2] at P2
  have k2 := P2.cell
  have hN : NI w2 exN (.agg #[.int .i64 3, .int .i64 0, .int .i64 0, .slice (some ⟨b1, 0, none⟩) 2 2]) := by
    have Q := F2.pt P1 (by simp)
    refine NIn.mk 3 0 0 [.mk 0 1 5 [], .mk 0 3 3 []] _ 2 (fun _ => .slice none 0 0) (fun i hi => ⟨b1, 0, rfl, Q.lt, trivial, ?_⟩) (fun i hi => ?_)
    · rw [Q.cell, Q.cell, Q.cell, Q.cell]
      match i, hi with
      | 0, _ => exact ⟨rfl, rfl, rfl, rfl⟩
      | 1, _ => exact ⟨rfl, rfl, rfl, rfl⟩
    · match i, hi with
      | 0, _ => exact NIn.mk 0 1 5 [] none 0 (fun _ => .slice none 0 0) (fun i hi => by cases hi) (fun i hi => by cases hi)
      | 1, _ => exact NIn.mk 0 3 3 [] none 0 (fun _ => .slice none 0 0) (fun i hi => by cases hi) (fun i hi => by cases hi)
  have OF := Of_any exN w2 _ (by show (3 : Nat) ≤ _; omega) hN
  replace P1 := Lib.hid P1; replace F1 := Lib.hid F1; replace P2 := Lib.hid P2; replace F2 := Lib.hid F2; replace hN := Lib.hid hN; replace OF := Lib.hid OF
  go_enter Try.func8, Try.ntmps8
  go_wp2_with fail
  refine (OF.out).mono ?_
  rintro e w3 ⟨v3, l3, c3, rfl, p3, o3, f3⟩
  obtain ⟨rfl, rfl⟩ : c3 = 0 ∧ l3 = [(1, 2), (4, 5)] := by
    rcases o3 with ⟨h, _⟩ | ⟨_, L, hL, ⟨h1, h2, h3⟩ | ⟨h1, h2, h3⟩⟩
    · exact absurd exN_chk h
    · rw [exL_eq hL] at h1; simp at h1
    · exact ⟨h2, by rw [h3, exL_eq hL]⟩
  have SZ := Size_any v3 _ w3 p3 (by simp)
  have hv : valS [(1, 2), (4, 5)] = true := by
    rw [valS_iff]
    refine ⟨exL_nf, fun x hx => ?_, by simp⟩
    rw [inS_cons, inS_one] at hx
    dsimp only at hx
    omega
  replace p3 := Lib.hid p3; replace o3 := Lib.hid o3; replace f3 := Lib.hid f3; replace SZ := Lib.hid SZ
  go_wp2_with fail
  refine (SZ.out).mono ?_
  rintro e w4 ⟨h4, f4⟩
  obtain ⟨_, rfl⟩ : True ∧ e = .returned (.tuple #[.int .i64 (szS [(1, 2), (4, 5)]), .int .i64 0]) := by
    rcases h4 with ⟨_, h⟩ | ⟨h, _⟩
    · exact ⟨trivial, h⟩
    · rw [hv] at h; cases h
  clear h4
  rw [show szS [(1, 2), (4, 5)] = 4 from rfl]
  clear hv
  have F4 := ((F1.out.trans F2.out).trans f3.out).trans f4
  obtain ⟨w5, hw5⟩ : ∃ x, w4.alloc (.cells #[.int .i64 1, .int .i64 2, .int .i64 4, .int .i64 5] 51) = x := ⟨_, rfl⟩
  have P5 := Pt.newA w4 51 #[.int .i64 1, .int .i64 2, .int .i64 4, .int .i64 5]
  rw [hw5] at P5
  have F5 : Fr [] w4 w5 := by rw [← hw5]; exact (Fr.refl [] w4).alloc _
  obtain ⟨b5, hb5⟩ : ∃ x, w4.heap.size = x := ⟨_, rfl⟩
  rw [hb5] at P5
  have hp : PIn w5 (.slice (some ⟨b5, 0, none⟩) 2 2) [(1, 2), (4, 5)] := by
    refine ⟨_, 2, rfl, fun i hi => ⟨b5, 0, rfl, P5.lt, ?_⟩⟩
    rw [P5.cell, P5.cell]
    match i, hi with
    | 0, _ => exact ⟨rfl, rfl⟩
    | 1, _ => exact ⟨rfl, rfl⟩
  have PS := pairs_same v3 _ _ w5 ((p3.out.fr f4).fr F5) hp (by simp)
  replace f4 := Lib.hid f4; replace F4 := Lib.hid F4; replace P5 := Lib.hid P5; replace F5 := Lib.hid F5; replace hp := Lib.hid hp; replace PS := Lib.hid PS
  go_wp2_with fail
  refine (PS.out).mono ?_
  rintro e w6 ⟨rfl, f6⟩
  have F6 := (F4.out.trans F5.out).trans f6
  replace f6 := Lib.hid f6; replace F6 := Lib.hid F6
  go_wp2_with fail
  go_ret
  exact ⟨rfl, F6.out⟩
end Go.Proofs.Ytehmfnpiidcbpaa
