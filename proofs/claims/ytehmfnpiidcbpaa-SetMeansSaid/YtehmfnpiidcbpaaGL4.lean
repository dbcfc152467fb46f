import Derived.Test.YtehmfnpiidcbpaaGM2
import Derived.Test.YtehmfnpiidcbpaaGM4
import Derived.Test.YtehmfnpiidcbpaaGM6
import Derived.Test.YtehmfnpiidcbpaaGN6
import Derived.Test.YtehmfnpiidcbpaaGR2
namespace Go.Proofs.Ytehmfnpiidcbpaa
open Go.RowKit
set_option linter.unusedVariables false
set_option linter.unusedSimpArgs false
set_option maxHeartbeats 16000000
set_option maxRecDepth 100000
/-! ### The law on what a constraint means -/
theorem VaL.same {n m : Nd} {L M : List (Int × Int)} (h : VaL n L) (k : VaL m M) (e : ∀ x, n.hold x = m.hold x) : L = M :=
  Nf.ext h.nf k.nf fun x => by rw [h.num, k.num, e]
theorem va_val {n : Nd} {L : List (Int × Int)} (h : VaL n L) (hs : n.sh = true) (hl : L.length ≤ 100) : valS L = true := (valS_iff L).2 ⟨h.nf, h.bd hs, hl⟩
theorem va_has {n : Nd} {L : List (Int × Int)} (h : VaL n L) (x : Int) : hasF L x = n.hold x := by
  rw [Bool.eq_iff_iff, hasF_iff, h.num]
theorem setMeans_any (n : Nd) (x : Int) (v : Value) (w : World) (hv : NI w n v) :
    Calls Try.prog 6 #[v, .int .i64 x] w fun e w' => e = .returned (.bool true) ∧ Fr [] w w' := by
  have LG := fun W (f : Fr [] w W) => large_any n W v (hv.go f)
  have CK := fun (hn : n.nodes ≤ 100000) W (f : Fr [] w W) => Check_any n W v hn (hv.go f)
  have ND := fun (hn : n.nodes ≤ 100000) W (f : Fr [] w W) => node_any n.nodes n W v (Nat.le_refl _) hn (hv.go f)
  have HO := fun (hn : n.nodes ≤ 100000) (hs : n.wk = true) W (f : Fr [] w W) => holds_any n.nodes n W v x (Nat.le_refl _) hn hs (hv.go f)
  obtain ⟨o, cap, rfl, hl⟩ := hv.open
  clear hl hv
  obtain ⟨op, hop⟩ : ∃ x, n.op = x := ⟨_, rfl⟩
  obtain ⟨lo, hlo⟩ : ∃ x, n.lo = x := ⟨_, rfl⟩
  obtain ⟨hi, hhi⟩ : ∃ x, n.hi = x := ⟨_, rfl⟩
  obtain ⟨K, hK⟩ : ∃ x, n.kids.length = x := ⟨_, rfl⟩
  rw [hop, hlo, hhi, hK] at LG CK ND HO ⊢
  obtain ⟨w1, hw1⟩ : ∃ x, w.alloc (.cells #[.int .i64 op, .int .i64 lo, .int .i64 hi, .slice o K cap] 40) = x := ⟨_, rfl⟩
  have P1 := Pt.newA w 40 #[.int .i64 op, .int .i64 lo, .int .i64 hi, .slice o K cap]
  rw [hw1] at P1
  have F1 : Fr [] w w1 := by rw [← hw1]; exact (Fr.refl [] w).alloc _
  obtain ⟨b1, hb1⟩ : ∃ x, w.heap.size = x := ⟨_, rfl⟩
  rw [hb1] at P1
  have k1 := P1.cell
  have LG1 := LG w1 F1
  by_cases h4 : 400 ≤ n.nodes
  · as_aux_lemma =>
    rw [decide_eq_true h4] at LG1
    replace LG := Lib.hid LG; replace CK := Lib.hid CK; replace ND := Lib.hid ND; replace HO := Lib.hid HO; replace hop := Lib.hid hop; replace hlo := Lib.hid hlo; replace hhi := Lib.hid hhi; replace hK := Lib.hid hK; replace P1 := Lib.hid P1; replace F1 := Lib.hid F1; replace LG1 := Lib.hid LG1
    clear h4
    go_enter Try.func6, Try.ntmps6
    go_wp2_with fail
    refine (LG1.out).mono ?_
    rintro e w2 ⟨rfl, f2⟩
    have SN := sane_any w2
    replace f2 := Lib.hid f2; replace SN := Lib.hid SN
    go_wp2_with fail
    refine (SN.out).mono ?_
    rintro e w3 ⟨rfl, f3⟩
    replace f3 := Lib.hid f3
    go_wp2_with fail
    go_ret
    exact ⟨rfl, (F1.out.trans f2.out).trans f3.out⟩
  · rw [decide_eq_false h4] at LG1
    have hn : n.nodes ≤ 100000 := by omega
    replace CK := CK hn
    replace ND := ND hn
    replace HO := HO hn
    obtain ⟨E, hE⟩ : ∃ E, chkF n = E := ⟨_, rfl⟩
    rw [hE] at CK
    by_cases h0 : E = 0
    · subst h0
      obtain ⟨hsh, hn2, _⟩ := chk_sh hE
      replace HO := HO (sh_wk n.nodes n (Nat.le_refl _) hsh)
      have RK := rt_ok n.nodes n (Nat.le_refl _) hsh
      obtain ⟨V, hV⟩ : ∃ V, n.hold x = V := ⟨_, rfl⟩
      rw [hV] at HO
      clear h4
      replace LG := Lib.hid LG; replace CK := Lib.hid CK; replace ND := Lib.hid ND; replace HO := Lib.hid HO; replace hop := Lib.hid hop; replace hlo := Lib.hid hlo; replace hhi := Lib.hid hhi; replace hK := Lib.hid hK; replace P1 := Lib.hid P1; replace F1 := Lib.hid F1; replace LG1 := Lib.hid LG1; replace hE := Lib.hid hE; replace hsh := Lib.hid hsh; replace RK := Lib.hid RK; replace hV := Lib.hid hV
      go_enter Try.func6, Try.ntmps6
      go_wp2_with fail
      refine (LG1.out).mono ?_
      rintro e w2 ⟨rfl, f2⟩
      have F2 := F1.out.trans f2
      have k2 := (f2.pt P1.out (by simp)).cell
      have CK2 := CK.out w2 F2
      replace f2 := Lib.hid f2; replace F2 := Lib.hid F2; replace CK2 := Lib.hid CK2
      go_wp2_with fail
      refine (CK2.out).mono ?_
      rintro e w3 ⟨rfl, f3⟩
      have F3 := F2.out.trans f3
      have P3 := (f2.out.trans f3).pt P1.out (by simp)
      have k3 := P3.cell
      have N3 := ND.out w3 F3
      clear k2
      replace f3 := Lib.hid f3; replace F3 := Lib.hid F3; replace N3 := Lib.hid N3; replace P3 := Lib.hid P3
      go_wp2_with fail
      refine (N3.out).mono ?_
      rintro e w4 ⟨s4, rfl, n4, f4⟩
      have F4 := F3.out.trans f4
      have P4 := f4.pt P3.out (by simp)
      have OF := Of_any n w4 _ hn n4.ni
      replace n4 := Lib.hid n4; replace f4 := Lib.hid f4; replace F4 := Lib.hid F4; replace P4 := Lib.hid P4; replace OF := Lib.hid OF
      go_wp2_with fail
      refine (OF.out).mono ?_
      rintro e w5 ⟨v5, l5, c5, rfl, p5, o5, f5⟩
      have F5 := F4.out.trans f5
      have P5 := f5.pt P4.out (by simp)
      rcases o5 with ⟨h, _⟩ | ⟨_, L, hL, ⟨hl, rfl, rfl⟩ | ⟨hl, rfl, rfl⟩⟩
      · exact absurd hE.out h
      · as_aux_lemma =>
        have SN := sane_any w5
        replace p5 := Lib.hid p5; replace f5 := Lib.hid f5; replace F5 := Lib.hid F5; replace P5 := Lib.hid P5; replace hL := Lib.hid hL; replace hl := Lib.hid hl; replace SN := Lib.hid SN
        go_wp2_with fail
        refine (SN.out).mono ?_
        rintro e w6 ⟨rfl, f6⟩
        replace f6 := Lib.hid f6
        go_wp2_with fail
        go_ret
        exact ⟨rfl, F5.out.trans f6.out⟩
      · as_aux_lemma =>
        have k5 := P5.cell
        have hvl := va_val hL hsh.out hl
        have HS := Has_any v5 l5 x w5 p5 (by omega)
        have hhs := va_has hL x
        rw [hV.out] at hhs
        replace p5 := Lib.hid p5; replace f5 := Lib.hid f5; replace F5 := Lib.hid F5; replace P5 := Lib.hid P5; replace hL := Lib.hid hL; replace hvl := Lib.hid hvl; replace HS := Lib.hid HS; replace hhs := Lib.hid hhs
        clear k3
        go_wp2_with fail
        refine (HS.out).mono ?_
        rintro e w6 ⟨h6, f6⟩
        obtain rfl : e = .returned (.tuple #[.bool V, .int .i64 0]) := by
          rcases h6 with ⟨_, h⟩ | ⟨h, _⟩
          · rw [h, hhs.out]
          · rw [hvl.out] at h; cases h
        clear h6
        have F6 := F5.out.trans f6
        have P6 := f6.pt P5.out (by simp)
        have k6 := P6.cell
        have HO6 := HO.out w6 F6
        have eV : (V != V) = false := by simp
        have eV2 : (V == V) = true := by simp
        replace f6 := Lib.hid f6; replace F6 := Lib.hid F6; replace P6 := Lib.hid P6; replace HO6 := Lib.hid HO6
        clear k5
        go_wp2_with fail
        refine (HO6.out).mono ?_
        rintro e w7 ⟨rfl, f7⟩
        have F7 := F6.out.trans f7
        have P7 := f7.pt P6.out (by simp)
        have k7 := P7.cell
        have N7 := ND.out w7 F7
        replace f7 := Lib.hid f7; replace F7 := Lib.hid F7; replace P7 := Lib.hid P7; replace N7 := Lib.hid N7
        clear k6
        go_wp2_with fail
        refine (N7.out).mono ?_
        rintro e w8 ⟨s8, rfl, n8, f8⟩
        have F8 := F7.out.trans f8
        have RT := Root_any n w8 _ hn n8.ni
        replace n8 := Lib.hid n8; replace f8 := Lib.hid f8; replace F8 := Lib.hid F8; replace RT := Lib.hid RT
        go_wp2_with fail
        refine (RT.out).mono ?_
        rintro e w9 ⟨s9, m9, c9, rfl, n9, r9, f9⟩
        obtain ⟨rfl, rfl⟩ : c9 = 0 ∧ m9 = n.rt := by
          rcases r9 with ⟨_, h1, h2⟩ | ⟨h, _⟩
          · exact ⟨h1, h2⟩
          · exact absurd hE.out h
        clear r9
        have F9 := F8.out.trans f9
        have hn9 : n.rt.nodes ≤ 100000 := by have := RK.out.nodes; omega
        have hp9 := ((p5.out.fr f6.out).fr f7.out).fr (f8.out.trans f9)
        obtain ⟨o9, L9, cc9, rfl⟩ := n9.sl
        unfold ndV at n9 ⊢
        obtain ⟨Rop, hRop⟩ : ∃ x, n.rt.op = x := ⟨_, rfl⟩
        obtain ⟨Rlo, hRlo⟩ : ∃ x, n.rt.lo = x := ⟨_, rfl⟩
        obtain ⟨Rhi, hRhi⟩ : ∃ x, n.rt.hi = x := ⟨_, rfl⟩
        rw [hRop, hRlo, hRhi] at n9 ⊢
        obtain ⟨wA, hwA⟩ : ∃ x, w9.alloc (.cells #[.int .i64 Rop, .int .i64 Rlo, .int .i64 Rhi, .slice o9 L9 cc9] 46) = x := ⟨_, rfl⟩
        have PA := Pt.newA w9 46 #[.int .i64 Rop, .int .i64 Rlo, .int .i64 Rhi, .slice o9 L9 cc9]
        rw [hwA] at PA
        have FA : Fr [] w9 wA := by rw [← hwA]; exact (Fr.refl [] w9).alloc _
        obtain ⟨bA, hbA⟩ : ∃ x, w9.heap.size = x := ⟨_, rfl⟩
        rw [hbA] at PA
        have kA := PA.cell
        have OF2 := Of_any n.rt wA _ hn9 (n9.go FA)
        replace n9 := Lib.hid n9; replace f9 := Lib.hid f9; replace F9 := Lib.hid F9; replace hn9 := Lib.hid hn9; replace hp9 := Lib.hid hp9; replace hRop := Lib.hid hRop; replace hRlo := Lib.hid hRlo; replace hRhi := Lib.hid hRhi; replace PA := Lib.hid PA; replace FA := Lib.hid FA; replace OF2 := Lib.hid OF2; replace hwA := Lib.hid hwA
        go_wp2_with fail
        rw [hwA.out]
        clear k7
        go_wp2_with fail
        refine (OF2.out).mono ?_
        rintro e wB ⟨vB, lB, cB, rfl, pB, oB, fB⟩
        obtain ⟨rfl, rfl⟩ : cB = 0 ∧ lB = l5 := by
          rcases oB with ⟨h, _⟩ | ⟨_, M, hM, hq⟩
          · exact absurd (rt_chk hE.out) h
          · have e := hL.out.same hM (fun y => (RK.out.hold y).symm)
            subst e
            rcases hq with ⟨hl2, _⟩ | ⟨_, h1, h2⟩
            · omega
            · exact ⟨h1, h2⟩
        clear oB
        have FB := (F9.out.trans FA.out).trans fB
        have PS := pairs_same v5 vB lB wB ((hp9.out.fr FA.out).fr fB) pB (by omega)
        replace pB := Lib.hid pB; replace fB := Lib.hid fB; replace FB := Lib.hid FB; replace PS := Lib.hid PS
        go_wp2_with fail
        refine (PS.out).mono ?_
        rintro e wC ⟨rfl, fC⟩
        have FC := FB.out.trans fC
        have SN := sane_any wC
        replace fC := Lib.hid fC; replace FC := Lib.hid FC; replace SN := Lib.hid SN
        go_wp2_with fail
        refine (SN.out).mono ?_
        rintro e wD ⟨rfl, fD⟩
        have FD := FC.out.trans fD
        replace fD := Lib.hid fD; replace FD := Lib.hid FD
        go_wp2_with fail
        go_ret
        exact ⟨rfl, FD.out⟩
    · as_aux_lemma =>
      have b9 : (E == 0) = false := by simpa using h0
      have b9' : (E != 0) = true := by simpa using h0
      clear h0 HO h4
      replace LG := Lib.hid LG; replace CK := Lib.hid CK; replace ND := Lib.hid ND; replace hop := Lib.hid hop; replace hlo := Lib.hid hlo; replace hhi := Lib.hid hhi; replace hK := Lib.hid hK; replace P1 := Lib.hid P1; replace F1 := Lib.hid F1; replace LG1 := Lib.hid LG1; replace hE := Lib.hid hE
      go_enter Try.func6, Try.ntmps6
      go_wp2_with fail
      refine (LG1.out).mono ?_
      rintro e w2 ⟨rfl, f2⟩
      have F2 := F1.out.trans f2
      have k2 := (f2.pt P1.out (by simp)).cell
      have CK2 := CK.out w2 F2
      replace f2 := Lib.hid f2; replace F2 := Lib.hid F2; replace CK2 := Lib.hid CK2
      go_wp2_with fail
      refine (CK2.out).mono ?_
      rintro e w3 ⟨rfl, f3⟩
      have F3 := F2.out.trans f3
      have SN := sane_any w3
      replace f3 := Lib.hid f3; replace F3 := Lib.hid F3; replace SN := Lib.hid SN
      go_wp2_with fail
      refine (SN.out).mono ?_
      rintro e w4 ⟨rfl, f4⟩
      replace f4 := Lib.hid f4
      go_wp2_with fail
      go_ret
      exact ⟨rfl, F3.out.trans f4.out⟩
end Go.Proofs.Ytehmfnpiidcbpaa
