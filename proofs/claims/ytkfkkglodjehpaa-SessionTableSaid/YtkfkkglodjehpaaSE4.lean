import Derived.Test.YtkfkkglodjehpaaSE3
import Derived.Test.YtkfkkglodjehpaaAgLaw
import Derived.Deep.RegionHeld3
import Derived.IntWalk
namespace Go.Proofs.Ytkfkkglodjehpaa
open Go.RowKit
set_option linter.unusedVariables false
set_option linter.unusedSimpArgs false
set_option maxHeartbeats 16000000
set_option maxRecDepth 100000
theorem tmod_cases (x m : Int) (hm : 0 < m) : (0 ≤ x % m ∧ x % m < m) ∧ ((x.tmod m = x % m ∧ (0 ≤ x ∨ x % m = 0)) ∨ (x.tmod m = x % m - m ∧ x < 0 ∧ x % m ≠ 0)) := by
  have h2 := Int.emod_nonneg x (show m ≠ 0 by omega)
  have h3 := Int.emod_lt_of_pos x hm
  refine ⟨⟨h2, h3⟩, ?_⟩
  rw [Int.tmod_eq_emod]
  split
  · rename_i h
    left
    refine ⟨by omega, ?_⟩
    rcases h with h | h
    · exact .inl h
    · exact .inr (Int.emod_eq_zero_of_dvd h)
  · rename_i h
    right
    have hx : x < 0 := by omega
    have hd : ¬ m ∣ x := fun hd => h (.inr hd)
    have : (m.natAbs : Int) = m := by omega
    refine ⟨by omega, hx, fun e => hd (Int.dvd_of_emod_eq_zero e)⟩
theorem mod_any (n m : Int) (w : World) (h0 : 1 ≤ m) (h1 : m ≤ 1000000) : Calls Try.prog 10 #[.int .i64 n, .int .i64 m] w fun e w' => e = .returned (.int .i64 (n % m)) ∧ w = w' := by
  obtain ⟨⟨h2, h3⟩, h⟩ := tmod_cases n m (by omega)
  have hm0 : (m == 0) = false := by rw [beq_eq_false_iff_ne]; omega
  have hm1 : ¬ m = 0 := by omega
  have hm2 : ¬ m < 1 := by omega
  rcases h with ⟨h4, h5⟩ | ⟨h4, h5, h6⟩
  · have h7 : ¬ n.tmod m < 0 := by omega
    rw [← h4]
    clear h4 h5 h2 h3
    go_enter Try.func10, Try.ntmps10
    go_wp2_with fail
    go_ret
    exact ⟨rfl, rfl⟩
  · have h7 : n.tmod m < 0 := by omega
    have h8 : wrap64 (n.tmod m + m) = n % m := by rw [h4]; unfold wrap64; omega
    clear h4 h5 h6 h2 h3
    go_enter Try.func10, Try.ntmps10
    go_wp2_with fail
    go_ret
    exact ⟨rfl, rfl⟩
theorem sane22 (w : World) : Calls Try.prog 11 #[] w fun e w' => e = .returned (.bool true) ∧ Fr [] w w' :=
  (Ag.sane_any w).mono fun e w' ⟨h1, h2⟩ => ⟨h1, Fr.ofBelow h2⟩
theorem sesT_fits : Fits sesT := ⟨by decide +kernel, by decide +kernel⟩
theorem sesT_run : ∀ (s e : Nat), s < 7 → e < 12 → sesT.Run s [(e : Int)] = ([(rowv s e).2], (rowv s e).1, 0) := by
  have h : ∀ s ∈ List.range 7, ∀ e ∈ List.range 12, sesT.Run s [(e : Int)] = ([(rowv s e).2], (rowv s e).1, 0) := by decide +kernel
  exact fun s e h1 h2 => h s (List.mem_range.mpr h1) e (List.mem_range.mpr h2)
theorem one_nin {w : World} {b : Nat} {x : Int} {T : TypeId} (h : Pt w b T [.int .i64 x]) : NIn w (.slice (some ⟨b, 0, none⟩) 1 1) [x] := by
  refine ⟨_, 1, rfl, fun i hi => ⟨b, 0, rfl, h.lt, ?_⟩⟩
  have : i = 0 := by simp at hi; omega
  subst this
  rw [h.cell]; rfl
theorem stable_any (a0 a1 : Int) (w : World) : Calls Try.prog 3 #[.int .i64 a0, .int .i64 a1] w fun e w' => e = .returned (.bool true) ∧ Fr [] w w' := by
  have M7 := fun W => mod_any a0 7 W (by omega) (by omega)
  have M12 := fun W => mod_any a1 12 W (by omega) (by omega)
  obtain ⟨s, hs⟩ : ∃ s : Nat, a0 % 7 = (s : Int) := ⟨(a0 % 7).toNat, by omega⟩
  obtain ⟨e, he⟩ : ∃ s : Nat, a1 % 12 = (s : Int) := ⟨(a1 % 12).toNat, by omega⟩
  have hs7 : s < 7 := by omega
  have he12 : e < 12 := by omega
  simp only [hs] at M7
  simp only [he] at M12
  have ST := sesTab_any w
  have hrun := sesT_run s e hs7 he12
  obtain ⟨⟨nx, ou⟩, hrv⟩ : ∃ p, rowv s e = p := ⟨_, rfl⟩
  rw [hrv] at hrun
  have hlen := sesR_len
  have hrow := sesR_row s (by rw [hlen]; exact hs7)
  have hcell := rowv_get s e (by rw [hlen]; exact hs7) (by rw [hrow]; exact he12)
  rw [hrv] at hcell
  replace M7 := Lib.hid M7; replace M12 := Lib.hid M12; replace hs := Lib.hid hs; replace he := Lib.hid he; replace ST := Lib.hid ST; replace hrun := Lib.hid hrun; replace hrv := Lib.hid hrv; replace hlen := Lib.hid hlen; replace hrow := Lib.hid hrow; replace hcell := Lib.hid hcell
  go_enter Try.func3, Try.ntmps3
  go_wp2_with fail
  refine ST.out.mono ?_
  rintro e' w1 ⟨rv1, rfl, hR1, f1⟩
  obtain ⟨o1, n1, c1, hv1⟩ := hR1.shape
  subst hv1
  obtain ⟨w2, hw2⟩ : ∃ x, w1.alloc (.cells #[.int .i64 7, .int .i64 12, .int .i64 0, .slice o1 n1 c1] TTab) = x := ⟨_, rfl⟩
  have P5 := Pt.newA w1 TTab #[.int .i64 7, .int .i64 12, .int .i64 0, .slice o1 n1 c1]
  rw [hw2] at P5
  have F2 : Fr [] w1 w2 := by rw [← hw2]; exact (Fr.refl [] w1).alloc _
  obtain ⟨b5, hb5⟩ : ∃ x, w1.heap.size = x := ⟨_, rfl⟩
  rw [hb5] at P5
  have RT := rTable_any w2
  have F02 := f1.trans F2
  replace f1 := Lib.hid f1; replace hR1 := Lib.hid hR1; replace P5 := Lib.hid P5; replace F2 := Lib.hid F2; replace RT := Lib.hid RT; replace F02 := Lib.hid F02
  go_wp2_with fail
  refine RT.out.mono ?_
  rintro e' w3 ⟨rv2, rfl, hR3, f3⟩
  obtain ⟨o2, n2, c2, hv2⟩ := hR3.shape
  subst hv2
  clear hw2 hb5
  obtain ⟨w4, hw4⟩ : ∃ x, w3.alloc (.cells #[.int .i64 7, .int .i64 12, .int .i64 0, .slice o2 n2 c2] RTab) = x := ⟨_, rfl⟩
  have P6 := Pt.newA w3 RTab #[.int .i64 7, .int .i64 12, .int .i64 0, .slice o2 n2 c2]
  rw [hw4] at P6
  have F4 : Fr [] w3 w4 := by rw [← hw4]; exact (Fr.refl [] w3).alloc _
  obtain ⟨b6, hb6⟩ : ∃ x, w3.heap.size = x := ⟨_, rfl⟩
  rw [hb6] at P6
  have f24 := f3.trans F4
  have F04 := F02.out.trans f24
  have P54 := f24.pt P5.out (by simp)
  have k5 := P54.cell
  have R1 : RIn w4 (.slice o1 n1 c1) sesR := (hR1.out.rin.fr F2.out).fr f24
  have R2 : RIn w4 (.slice o2 n2 c2) sesR := hR3.rin.fr F4
  have MI := Missing_any sesT (.agg #[.int .i64 7, .int .i64 12, .int .i64 0, .slice o1 n1 c1]) w4 ⟨_, rfl, R1⟩
  have hmf : missF sesT = ([], 0) := by unfold missF; rw [sesT_valid, sesT_miss]; rfl
  rw [hmf] at MI
  replace f3 := Lib.hid f3; replace hR3 := Lib.hid hR3; replace P6 := Lib.hid P6; replace F4 := Lib.hid F4; replace f24 := Lib.hid f24; replace F04 := Lib.hid F04; replace P54 := Lib.hid P54; replace R1 := Lib.hid R1; replace R2 := Lib.hid R2; replace MI := Lib.hid MI; replace hmf := Lib.hid hmf
  go_wp2_with fail
  refine MI.out.mono ?_
  rintro e' wq ⟨ov, rfl, ⟨oM, cM, rfl, _⟩, f5⟩
  have FQ := F04.out.trans f5
  have P55 := f5.pt P54.out (by simp)
  have P65 := f5.pt P6.out (by simp)
  have R15 := R1.out.fr f5
  have R25 := R2.out.fr f5
  simp only [List.length_nil]
  clear k5 hw4 hb6
  have SS : ∀ W, Fr [] wq W → W.cell? ⟨b5, 0, none⟩ = some (.int .i64 7) ∧ W.cell? ⟨b5, 1, none⟩ = some (.int .i64 12) ∧ W.cell? ⟨b5, 2, none⟩ = some (.int .i64 0) ∧ W.cell? ⟨b5, 3, none⟩ = some (.slice o1 n1 c1) ∧ W.cell? ⟨b6, 0, none⟩ = some (.int .i64 7) ∧ W.cell? ⟨b6, 1, none⟩ = some (.int .i64 12) ∧ W.cell? ⟨b6, 2, none⟩ = some (.int .i64 0) ∧ W.cell? ⟨b6, 3, none⟩ = some (.slice o2 n2 c2) := fun W f => by
    have p := (f.pt P55 (by simp)).cell
    have q := (f.pt P65 (by simp)).cell
    exact ⟨p 0, p 1, p 2, p 3, q 0, q 1, q 2, q 3⟩
  have TQ : ∀ W, Fr [] wq W → Calls Try.prog 8 #[.agg #[.int .i64 7, .int .i64 12, .int .i64 0, .slice o1 n1 c1]] W fun e w' => ∃ rv, e = .returned rv ∧ TIn w' rv sesT ∧ Fr [] wq w' := fun W f => (to_any sesT _ W ⟨_, rfl, R15.fr f⟩ sesT_fits).mono fun e w' ⟨rv, h1, h2, h3⟩ => ⟨rv, h1, h2, f.trans h3⟩
  have SQ : ∀ W rv, Fr [] wq W → TIn W rv sesT → Calls Try.prog 7 #[rv, .agg #[.int .i64 7, .int .i64 12, .int .i64 0, .slice o2 n2 c2]] W fun e w' => e = .returned (.bool true) ∧ Fr [] wq w' := fun W rv f h => (rsame_fit sesT rv _ W h ⟨_, rfl, R25.fr f⟩ sesT_fits).mono fun e w' ⟨h1, h2⟩ => ⟨h1, f.trans h2⟩
  replace f5 := Lib.hid f5; replace FQ := Lib.hid FQ; replace P55 := Lib.hid P55; replace P65 := Lib.hid P65; replace R15 := Lib.hid R15; replace R25 := Lib.hid R25; replace SS := Lib.hid SS; replace TQ := Lib.hid TQ; replace SQ := Lib.hid SQ
  obtain ⟨x0, x1, x2, x3, x4, x5, x6, x7⟩ := SS.out wq (Fr.refl _ _)
  go_upto_region 4 with fail
  clear x0 x1 x2 x3 x4 x5 x6 x7
  go_region_held3 (fun W => W.cell? ⟨b5, 0, none⟩ = some (.int .i64 7) ∧ W.cell? ⟨b5, 1, none⟩ = some (.int .i64 12) ∧ W.cell? ⟨b5, 2, none⟩ = some (.int .i64 0) ∧ W.cell? ⟨b5, 3, none⟩ = some (.slice o1 n1 c1) ∧ W.cell? ⟨b6, 0, none⟩ = some (.int .i64 7) ∧ W.cell? ⟨b6, 1, none⟩ = some (.int .i64 12) ∧ W.cell? ⟨b6, 2, none⟩ = some (.int .i64 0) ∧ W.cell? ⟨b6, 3, none⟩ = some (.slice o2 n2 c2))
    (first | exact SS.out _ (Fr.refl _ _).drew | exact SS.out _ GS.out | exact SS.out _ GA.out)
    ((first
      | (go_at_call 8; with_reducible refine Calls.mono (TQ.out _ ?hfr) ?_; (case hfr => exact (Fr.refl _ _).drew); rintro e' wA ⟨rva, rfl, tA, GA⟩; replace tA := Lib.hid tA; replace GA := Lib.hid GA)
      | (go_at_call 7; with_reducible refine Calls.mono (SQ.out wA rva GA.out tA.out) ?_; rintro e' wS ⟨rfl, GS⟩; replace GS := Lib.hid GS)))
  all_goals
    go_wp2_with fail
    have F6 := FQ.out.trans GS.out
    have P56 := GS.out.pt P55.out (by simp)
    have P66 := GS.out.pt P65.out (by simp)
    have R16 := R15.out.fr GS.out
    have R26 := R25.out.fr GS.out
    obtain ⟨w6, hw6⟩ : ∃ x : World, x = wS := ⟨_, rfl⟩
    subst hw6
    have S5 : ∀ W, Fr [] w6 W → W.cell? ⟨b5, 0, none⟩ = some (.int .i64 7) ∧ W.cell? ⟨b5, 1, none⟩ = some (.int .i64 12) ∧ W.cell? ⟨b5, 2, none⟩ = some (.int .i64 0) ∧ W.cell? ⟨b5, 3, none⟩ = some (.slice o1 n1 c1) := fun W f => by
      have p := (f.pt P56 (by simp)).cell
      exact ⟨p 0, p 1, p 2, p 3⟩
    obtain ⟨wl, hwl⟩ : ∃ x, (w6.alloc (.cells #[.int .i64 (e : Int)] 3)).drew = x := ⟨_, rfl⟩
    have fl : Fr [] w6 wl := by rw [← hwl]; exact ((Fr.refl [] w6).alloc _).drew
    have PL : Pt wl w6.heap.size 3 [.int .i64 (e : Int)] := by rw [← hwl]; exact Pt.newA w6 3 #[.int .i64 (e : Int)]
    have hND : NIn wl (.slice (some ⟨w6.heap.size, 0, none⟩) 1 1) [(e : Int)] := one_nin PL
    have RQ := Run_any sesT (.agg #[.int .i64 7, .int .i64 12, .int .i64 0, .slice o1 n1 c1]) s _ _ wl ⟨_, rfl, R16.fr fl⟩ hND
    rw [hrun.out] at RQ
    have RQ2 : Calls Try.prog 9 #[.agg #[.int .i64 7, .int .i64 12, .int .i64 0, .slice o1 n1 c1], .int .i64 (s : Int), .slice (some ⟨w6.heap.size, 0, none⟩) 1 1] wl fun e' w' => ∃ Bo oo c, e' = .returned (.tuple #[.slice (some ⟨Bo, oo, none⟩) 1 c, .int .i64 nx, .int .i64 0]) ∧ Bo < w'.heap.size ∧ w'.cell? ⟨Bo, oo, none⟩ = some (.int .i64 ou) ∧ Fr [] w6 w' := RQ.mono fun e' w' ⟨v, h1, ⟨o, c, hv, hc⟩, h3⟩ => by
      obtain ⟨Bo, oo, e1, e2, e3⟩ := hc 0 (by simp)
      subst e1
      exact ⟨Bo, oo, c, by rw [h1, hv]; rfl, e2, by simpa using e3, fl.trans h3⟩
    rw [← hwl] at RQ2
    clear RQ
    obtain ⟨y0, y1, y2, y3⟩ := S5 w6 (Fr.refl _ _)
    have M7' := fun W => M7.out W
    replace F6 := Lib.hid F6; replace P56 := Lib.hid P56; replace P66 := Lib.hid P66; replace R16 := Lib.hid R16; replace R26 := Lib.hid R26; replace S5 := Lib.hid S5; replace fl := Lib.hid fl; replace PL := Lib.hid PL; replace hND := Lib.hid hND; replace RQ2 := Lib.hid RQ2; replace hwl := Lib.hid hwl; replace M7' := Lib.hid M7'; replace GS := Lib.hid GS
    go_upto_region 6 with fail
    clear y0 y1 y2 y3
    go_region_held3 (fun W => W.cell? ⟨b5, 0, none⟩ = some (.int .i64 7) ∧ W.cell? ⟨b5, 1, none⟩ = some (.int .i64 12) ∧ W.cell? ⟨b5, 2, none⟩ = some (.int .i64 0) ∧ W.cell? ⟨b5, 3, none⟩ = some (.slice o1 n1 c1))
      (first | exact S5.out _ (Fr.refl _ _).drew | exact S5.out _ ((Fr.refl _ _).alloc _).drew | exact S5.out _ GR.out)
      ((first
        | (go_at_call 10; with_reducible refine Calls.mono (M7.out _) ?_; rintro e' w' ⟨rfl, rfl⟩)
        | (go_at_call 10; with_reducible refine Calls.mono (M12.out _) ?_; rintro e' w' ⟨rfl, rfl⟩)
        | (go_at_call 9; with_reducible refine Calls.mono RQ2.out ?_; rintro e' wR ⟨Bo, oo, co, rfl, lBo, cBo, GR⟩; replace GR := Lib.hid GR; replace lBo := Lib.hid lBo; replace cBo := Lib.hid cBo)))
    all_goals
      go_wp2_with fail
      obtain ⟨w7, hw7⟩ : ∃ x : World, x = wR := ⟨_, rfl⟩
      subst hw7
      have F7 := F6.out.trans GR.out
      have P67 := GR.out.pt P66.out (by simp)
      have R27 := R26.out.fr GR.out
      obtain ⟨oB, cr, hrs, hcells⟩ := R27
      have hs7' : s < sesR.length := by rw [hlen.out]; exact hs7
      obtain ⟨Br, or, u, hoB, lBr, cBr, oB2, cz, hu, hcr⟩ := hcells s hs7'
      have hcell' := hcell.out
      have hrow' := hrow.out
      have he12' : e < sesR[s].length := by rw [hrow']; exact he12
      obtain ⟨Bz, oz, hoz, lBz, cz1, cz2⟩ := hcr e he12'
      rw [← hcell'] at cz1 cz2
      rw [hlen.out] at hrs
      rw [hrow'] at hu
      injection hrs with q1 q2 q3
      subst q1 q2 q3
      subst hoB
      subst hoz
      subst hu
      dsimp only at cz1 cz2
      have S7 : ∀ W, Fr [] w7 W → W.cell? ⟨b6, 3, none⟩ = some (.slice (some ⟨Br, or, none⟩) 7 c2) ∧ W.cell? ⟨Br, or + s, none⟩ = some (.slice (some ⟨Bz, oz, none⟩) 12 cz) ∧ W.cell? ⟨Bz, oz + e * 2, none⟩ = some (.int .i64 nx) ∧ W.cell? ⟨Bz, oz + e * 2 + 1, none⟩ = some (.int .i64 ou) := fun W f => by
        have p := (f.pt P67 (by simp)).cell 3
        exact ⟨p, by rw [f.cell (p := ⟨Br, or + s, none⟩) lBr (by simp)]; exact cBr, by rw [f.cell (p := ⟨Bz, oz + e * 2, none⟩) lBz (by simp)]; exact cz1, by rw [f.cell (p := ⟨Bz, oz + e * 2 + 1, none⟩) lBz (by simp)]; exact cz2⟩
      obtain ⟨y0, y1, y2, y3⟩ := S7 w7 (Fr.refl _ _)
      have hs7I : (s : Int) < 7 := by omega
      have he12I : (e : Int) < 12 := by omega
      replace F7 := Lib.hid F7; replace P67 := Lib.hid P67; replace hcells := Lib.hid hcells; replace hcell' := Lib.hid hcell'; replace hrow' := Lib.hid hrow'; replace hcr := Lib.hid hcr; replace S7 := Lib.hid S7; replace lBr := Lib.hid lBr; replace lBz := Lib.hid lBz
      clear cBr cz1 cz2
      go_upto_region 7 with fail
      clear y0 y1 y2 y3
      go_region_held3 (fun W => W.cell? ⟨b6, 3, none⟩ = some (.slice (some ⟨Br, or, none⟩) 7 c2) ∧ W.cell? ⟨Br, or + s, none⟩ = some (.slice (some ⟨Bz, oz, none⟩) 12 cz) ∧ W.cell? ⟨Bz, oz + e * 2, none⟩ = some (.int .i64 nx) ∧ W.cell? ⟨Bz, oz + e * 2 + 1, none⟩ = some (.int .i64 ou))
        (first | exact S7.out _ (Fr.refl _ _).drew | exact S7.out _ ((Fr.refl _ _).alloc _).drew)
        ((first
          | (go_at_call 10; with_reducible refine Calls.mono (M7.out _) ?_; rintro e' w' ⟨rfl, rfl⟩)
          | (go_at_call 10; with_reducible refine Calls.mono (M12.out _) ?_; rintro e' w' ⟨rfl, rfl⟩)))
      all_goals
        have P9 := Pt.newA w7 RRow #[.int .i64 nx, .int .i64 ou]
        have F9 : Fr [] w7 (w7.alloc (.cells #[.int .i64 nx, .int .i64 ou] RRow)).drew := ((Fr.refl [] w7).alloc _).drew
        obtain ⟨b9, hb9⟩ : ∃ x, w7.heap.size = x := ⟨_, rfl⟩
        obtain ⟨w9, hw9⟩ : ∃ x, (w7.alloc (.cells #[.int .i64 nx, .int .i64 ou] RRow)).drew = x := ⟨_, rfl⟩
        have P9' : Pt w9 b9 RRow [.int .i64 nx, .int .i64 ou] := by rw [← hw9, ← hb9]; exact P9
        rw [hw9] at F9
        rw [hw9, hb9]
        have F09 := F7.out.trans F9
        have S8 : ∀ W, Fr [] w9 W → W.cell? ⟨Bo, oo, none⟩ = some (.int .i64 ou) ∧ W.cell? ⟨b9, 0, none⟩ = some (.int .i64 nx) ∧ W.cell? ⟨b9, 1, none⟩ = some (.int .i64 ou) := fun W f => by
          have p := (f.pt P9' (by simp)).cell
          exact ⟨by rw [(F9.trans f).cell (p := ⟨Bo, oo, none⟩) lBo.out (by simp)]; exact cBo.out, p 0, p 1⟩
        have NQ : ∀ W, Fr [] w9 W → Calls Try.prog 11 #[] W fun e w' => e = .returned (.bool true) ∧ Fr [] w9 w' := fun W f => (sane22 W).mono fun e w' ⟨h1, h2⟩ => ⟨h1, f.trans h2⟩
        obtain ⟨y0, y1, y2⟩ := S8 w9 (Fr.refl _ _)
        clear P9
        replace P9' := Lib.hid P9'; replace F9 := Lib.hid F9; replace F09 := Lib.hid F09; replace S8 := Lib.hid S8; replace NQ := Lib.hid NQ; replace hw9 := Lib.hid hw9; replace hb9 := Lib.hid hb9
        go_wp2_with fail
        go_upto_region 8 with fail
        clear y0 y1 y2
        go_region_held3 (fun W => W.cell? ⟨Bo, oo, none⟩ = some (.int .i64 ou) ∧ W.cell? ⟨b9, 0, none⟩ = some (.int .i64 nx) ∧ W.cell? ⟨b9, 1, none⟩ = some (.int .i64 ou))
          (first | exact S8.out _ (Fr.refl _ _).drew | exact S8.out _ GP.out)
          ((first
            | (go_at_call 11; with_reducible refine Calls.mono (NQ.out _ ?hfr) ?_; (case hfr => exact (Fr.refl _ _).drew); rintro e' wP ⟨rfl, GP⟩; replace GP := Lib.hid GP)))
        all_goals
          have FE := Lib.hid (F09.out.trans GP.out)
          go_wp2_with fail
          go_ret
          exact ⟨rfl, FE.out⟩
end Go.Proofs.Ytkfkkglodjehpaa
