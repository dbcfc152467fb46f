import Derived.Test.YtnggimkkjdipmaaTU7
namespace Go.Proofs.Ytnggimkkjdipmaa
open Go.RowKit
set_option linter.unusedVariables false
set_option linter.unusedSimpArgs false
set_option maxHeartbeats 16000000
set_option maxRecDepth 100000
theorem tellAll_len {M : Tb} (hM : VT M) : (tellsOf M).length ≤ 900 ∧ ∀ x ∈ tellsOf M, x.length ≤ 60 := by
  have hst := hM.st
  have h0 : ∀ (l a : List (List Int)), (l.foldl (fun a w => insW w a) a).length ≤ l.length + a.length := by
    intro l
    induction l with
    | nil => intro a; simp
    | cons w l ih =>
      intro a
      have h1 := ih (insW w a)
      have h2 := insW_len w a
      simp only [List.foldl_cons, List.length_cons]
      omega
  have h2 : (tellAll M M.st.toNat).length ≤ 30 * 30 := by
    unfold tellAll
    rw [List.length_flatMap]
    have h3 : ∀ x ∈ (List.range M.st.toNat).map (fun a => (tellRow M a M.st.toNat).length), x ≤ 30 := fun x hx => by
      obtain ⟨a, ha, rfl⟩ := List.mem_map.mp hx
      unfold tellRow
      refine Nat.le_trans (List.length_filterMap_le _ _) ?_
      rw [List.length_range']
      omega
    have h4 : ∀ (l : List Nat), (∀ x ∈ l, x ≤ 30) → l.sum ≤ l.length * 30 := by
      intro l
      induction l with
      | nil => simp
      | cons a l ih =>
        intro hl
        have := ih (fun x hx => hl x (by simp [hx]))
        have := hl a (by simp)
        simp only [List.sum_cons, List.length_cons]
        omega
    have h5 := h4 _ h3
    rw [List.length_map, List.length_range] at h5
    omega
  refine ⟨?_, fun x hx => ?_⟩
  · have h1 := h0 (tellAll M M.st.toNat) []
    unfold tellsOf onceF
    simp only [List.length_nil] at h1
    omega
  · unfold tellsOf at hx
    rw [onceF_mem] at hx
    unfold tellAll at hx
    obtain ⟨a, ha, hx⟩ := List.mem_flatMap.mp hx
    unfold tellRow at hx
    obtain ⟨c, hc, hd⟩ := List.mem_filterMap.mp hx
    have ha' := List.mem_range.mp ha
    obtain ⟨i, hi, rfl⟩ := List.mem_range'.mp hc
    exact (differT_words hM hM rfl (by omega) (by omega) x hd).2
theorem sWords_len (m : Nat) (tl : List (List Int)) (c : List Int) : (sWords m tl c).length = (m + 1) * (tl.length + 1) := by
  rw [sWords_eq, sHead_len, headsL_len, List.length_cons]
theorem flat_words (m : Nat) (tl done : List (List Int)) : (done.flatMap (sWords m tl)).length = done.length * ((m + 1) * (tl.length + 1)) := by
  induction done with
  | nil => simp
  | cons c d ih =>
    rw [List.flatMap_cons, List.length_append, ih, sWords_len, List.length_cons]
    generalize (m + 1) * (tl.length + 1) = K
    rw [Nat.add_mul, Nat.one_mul]; omega
theorem Suite_any (T : Tb) (v : Value) (w : World) (hT : TIn w v T) :
    Calls Try.prog 46 #[v] w (CvR (suiteF T).1 (suiteF T).2 w) := by
  obtain ⟨r, rfl, hR⟩ := hT
  rw [show T.val r = .agg #[.int .i64 T.st, .int .i64 T.ev, .int .i64 T.sr, r] from rfl]
  have VA : ∀ W, Fr [] w W → Calls Try.prog 19 #[.agg #[.int .i64 T.st, .int .i64 T.ev, .int .i64 T.sr, r]] W fun e w' => e = .returned (.bool (validT T)) ∧ Fr [] W w' := fun W f => valid_any T _ W ⟨r, rfl, hR.fr f⟩
  obtain ⟨⟨X, z⟩, hX⟩ : ∃ x, suiteF T = x := ⟨_, rfl⟩
  rw [hX]
  dsimp only
  obtain ⟨w1, hw1⟩ : ∃ x, w.alloc (.cells #[.int .i64 T.st, .int .i64 T.ev, .int .i64 T.sr, r] TTab) = x := ⟨_, rfl⟩
  have P1 := Pt.newA w TTab #[.int .i64 T.st, .int .i64 T.ev, .int .i64 T.sr, r]
  rw [hw1] at P1
  have F1 : Fr [] w w1 := by rw [← hw1]; exact (Fr.refl [] w).alloc _
  obtain ⟨b1, hb1⟩ : ∃ x, w.heap.size = x := ⟨_, rfl⟩
  rw [hb1] at P1
  have k1 := P1.cell
  replace hR := Lib.hid hR; replace VA := Lib.hid VA; replace hX := Lib.hid hX; replace P1 := Lib.hid P1; replace F1 := Lib.hid F1
  go_enter Try.func46, Try.ntmps46
  go_wp2_with fail
  refine (VA.out _ F1.out).mono ?_
  rintro e w4 ⟨rfl, f4⟩
  have F4 := F1.out.trans f4
  have p1 := f4.pt P1.out (by simp)
  clear k1 hb1 hw1
  cases hv : validT T
  · have hx := hX.out
    unfold suiteF at hx
    rw [hv] at hx
    obtain ⟨rfl, rfl⟩ : [] = X ∧ 1 = z := by simpa using hx
    clear hx
    have GO : CvR [] 1 w (.returned (.tuple #[.slice none 0 0, .int .i64 1])) w4 := ⟨_, rfl, ⟨none, 0, rfl, fun i hi => by simp at hi⟩, F4⟩
    replace hv := Lib.hid hv; replace F4 := Lib.hid F4; replace f4 := Lib.hid f4; replace p1 := Lib.hid p1; replace GO := Lib.hid GO
    go_wp2_with fail
    refine bodyPost_ret (v := .tuple #[.slice none 0 0, .int .i64 1]) (by simp [results, Try.results46, go_sem]) rfl GO.out
  · have hV := (validT_iff T).mp hv
    have hx := hX.out
    unfold suiteF at hx
    rw [hv, if_pos rfl] at hx
    have LE := least_own T _ w4 ⟨r, rfl, hR.out.fr F4⟩ hV
    have hLV := least_valid hV
    have hCW := cover_walk hV
    have hev := hV.ev
    have hevM : (leastT T).ev = T.ev := rfl
    obtain ⟨M0, hM0⟩ : ∃ x, leastT T = x := ⟨_, rfl⟩
    rw [hM0] at LE hLV hx hCW hevM
    obtain ⟨tlen, tsh⟩ := tellAll_len hLV
    have WE : ∀ r' W, RIn W r' M0.rows → Calls Try.prog 75 #[.agg #[.int .i64 M0.st, .int .i64 M0.ev, .int .i64 M0.sr, r']] W fun e w' => ∃ r bt bm ov bo M, e = .returned (.tuple #[ov, .map (some bm)]) ∧ WkI M0 W bt bm r (walkT M0) w' ov bo M ∧ WOk M0 (walkT M0) := fun r' W h => walk_any M0 _ W ⟨r', rfl, h⟩ hLV
    have TE : ∀ r' W, RIn W r' M0.rows → Calls Try.prog 77 #[.agg #[.int .i64 M0.st, .int .i64 M0.ev, .int .i64 M0.sr, r']] W (TellR M0 W) := fun r' W h => tells_any M0 r' W h hLV
    obtain ⟨n, hn⟩ : ∃ n : Nat, M0.st.toNat = n := ⟨_, rfl⟩
    obtain ⟨m, hm⟩ : ∃ n : Nat, T.ev.toNat = n := ⟨_, rfl⟩
    have hst := hLV.st
    have hnI : M0.st = (n : Int) := by omega
    have hmI : T.ev = (m : Int) := by omega
    have hm12 : m ≤ 12 := by omega
    have hn30 : n ≤ 30 := by omega
    have hn1 : 1 ≤ n := by omega
    have c1 := p1.cell
    clear hX
    replace hv := Lib.hid hv; replace hV := Lib.hid hV; replace hx := Lib.hid hx; replace F4 := Lib.hid F4; replace f4 := Lib.hid f4; replace p1 := Lib.hid p1; replace LE := Lib.hid LE; replace WE := Lib.hid WE; replace TE := Lib.hid TE; replace hn := Lib.hid hn; replace hm := Lib.hid hm; replace hnI := Lib.hid hnI; replace hmI := Lib.hid hmI; replace hst := Lib.hid hst; replace hev := Lib.hid hev; replace hLV := Lib.hid hLV; replace hM0 := Lib.hid hM0; replace hCW := Lib.hid hCW; replace hevM := Lib.hid hevM; replace tlen := Lib.hid tlen; replace tsh := Lib.hid tsh
    go_wp2_with fail
    refine LE.out.mono ?_
    rintro e w7 ⟨rv, rfl, ⟨hRB, us0, bo0, hRw, hul, hbo⟩, f7⟩
    have F7 := F4.out.trans f7
    have hRI := hRB.rin
    obtain ⟨orv, crv, hrv, _⟩ := hRI
    rw [show M0.rows.length = n by have := hLV.out.rows; have := hnI.out; omega] at hrv
    subst hrv
    obtain ⟨w8, hw8⟩ : ∃ x, w7.alloc (.cells #[.int .i64 M0.st, .int .i64 M0.ev, .int .i64 M0.sr, .slice orv n crv] TTab) = x := ⟨_, rfl⟩
    have P8 := Pt.newA w7 TTab #[.int .i64 M0.st, .int .i64 M0.ev, .int .i64 M0.sr, .slice orv n crv]
    rw [hw8] at P8
    have F8 : Fr [] w7 w8 := by rw [← hw8]; exact (Fr.refl [] w7).alloc _
    obtain ⟨b8, hb8⟩ : ∃ x, w7.heap.size = x := ⟨_, rfl⟩
    rw [hb8] at P8
    have C3 := WE.out (.slice orv n crv) w8 (hRB.rin.fr F8)
    have k8 := P8.cell
    have p18 := (f7.trans F8).pt p1.out (by simp)
    clear c1 hul hbo hRw
    replace hRB := Lib.hid hRB; replace f7 := Lib.hid f7; replace F7 := Lib.hid F7; replace C3 := Lib.hid C3; replace P8 := Lib.hid P8; replace F8 := Lib.hid F8; replace p18 := Lib.hid p18
    go_wp2_with fail
    refine C3.out.mono ?_
    rintro e w9 ⟨r9, bt, bm, ov, bo9, M, rfl, hK, hO⟩
    have F9 := (F7.out.trans F8.out).trans hK.fr
    have P9 := hK.fr.pt P8.out (by simp)
    have p19 := hK.fr.pt p18.out (by simp)
    clear k8 hb8 hw8
    obtain ⟨w10, hw10⟩ : ∃ x, w9.alloc (.cells #[.slice none 0 0] 25) = x := ⟨_, rfl⟩
    have P10 := Pt.newA w9 25 #[.slice none 0 0]
    rw [hw10] at P10
    have F10 : Fr [] w9 w10 := by rw [← hw10]; exact (Fr.refl [] w9).alloc _
    obtain ⟨b10, hb10⟩ : ∃ x, w9.heap.size = x := ⟨_, rfl⟩
    rw [hb10] at P10
    have hr10 : Row 1 w10 (.slice (some ⟨b10, 0, none⟩) 1 1) 1 [.slice none 0 0] (some b10) := by
      have := Row.of1 w9 (.slice none 0 0)
      rw [hw10, hb10] at this; exact this
    have Q10 := F10.pt P9 (by simp)
    have k10 := Q10.cell
    have C4 := TE.out (.slice orv n crv) w10 (hRB.out.rin.fr ((F8.out.trans hK.fr).trans F10))
    replace hK := Lib.hid hK; replace hO := Lib.hid hO; replace F9 := Lib.hid F9; replace P9 := Lib.hid P9; replace p19 := Lib.hid p19; replace P10 := Lib.hid P10; replace F10 := Lib.hid F10; replace hr10 := Lib.hid hr10; replace Q10 := Lib.hid Q10; replace C4 := Lib.hid C4
    go_wp2_with fail
    refine C4.out.mono ?_
    rintro e w11 ⟨vt, tps0, bt0, rfl, het, hWt, f11⟩
    have F11 := (F9.out.trans F10.out).trans f11
    have hlt0 : (tps0.map (·.1)).length = tps0.length := List.length_map _
    have het2 : wds tps0 = tellsOf M0 := het
    have htl : tps0.length = (tellsOf M0).length := by rw [← het2]; unfold wds; exact (List.length_map _).symm
    obtain ⟨ot, ct, hvt, hsw⟩ := (show Row 1 w11 vt (tps0.map (·.1)).length (tps0.map (·.1)) bt0 by rw [hlt0]; exact hWt.row).srcw
    obtain ⟨v12, w12, b12, happ12, hr12, hb12, f12⟩ := (show Row 1 w11 (.slice (some ⟨b10, 0, none⟩) 1 1) [Value.slice none 0 0].length [Value.slice none 0 0] (some b10) from hr10.out.fr f11 (by simp)).appS (tps0.map (·.1)) (by rw [hlt0]; simp; have := tlen.out; omega) ot ct (fun j hj => by
      obtain ⟨b, off, e, _, hc⟩ := hsw j hj
      exact ⟨b, off, e, hc⟩) (fun u hu => by
      obtain ⟨p, hp, rfl⟩ := List.mem_map.mp hu
      exact (hWt.each p hp).nin.one1)
    rw [hlt0] at hvt happ12
    subst hvt
    obtain ⟨tps, htps⟩ : ∃ x, ((Value.slice none 0 0, ([] : List Int)) :: tps0) = x := ⟨_, rfl⟩
    have htw : wds tps = [] :: tellsOf M0 := by rw [← htps, ← het2]; rfl
    have F12 : Fr [] w w12 := F11.step f12 (fun z hz => .inr (by have := F9.out.size; have := P10.out.lt; simp at hz; omega))
    have hTW : WSq (fun b => b < w12.heap.size) w12 v12 tps := by
      have e1 : tps.map (·.1) = [Value.slice none 0 0] ++ tps0.map (·.1) := by rw [← htps]; rfl
      refine WSq.of (bo := b12) ?_ (by rw [← htps]; simp) (fun z hz => by have h3 := hr12; rw [hz] at h3; exact h3.lt) (fun p hp => ?_)
      · rw [e1]
        have e2 : ([Value.slice none 0 0] ++ tps0.map (·.1)).length = tps.length := by rw [← htps]; simp
        rw [← e2]; exact hr12
      · rw [← htps] at hp
        rcases List.mem_cons.mp hp with rfl | hp
        · exact ⟨none, 0, rfl, fun i hi => by simp at hi⟩
        · exact (hWt.each p hp).frq f12 (fun b hb hq => ⟨by simp; have := hq.1; have := P10.out.lt; omega, by have := f12.size; omega⟩)
    have hMK : MapK intK w12 bm M := ((hK.out.mp.fr F10.out (by simp)).fr f11 (by simp)).fr f12 (by have := hK.out.mp.lt; simp; omega)
    have p12 := (f12.pt (f11.pt (F10.out.pt p19.out (by simp)) (by simp)) (by have := p19.out.lt; have := hb10; simp; omega))
    clear k10 hw10
    replace hb10 := Lib.hid hb10; replace F11 := Lib.hid F11; replace het := Lib.hid het; replace het2 := Lib.hid het2; replace hWt := Lib.hid hWt; replace f11 := Lib.hid f11; replace hsw := Lib.hid hsw; replace happ12 := Lib.hid happ12; replace hr12 := Lib.hid hr12; replace hb12 := Lib.hid hb12; replace f12 := Lib.hid f12; replace htps := Lib.hid htps; replace htw := Lib.hid htw; replace F12 := Lib.hid F12; replace hTW := Lib.hid hTW; replace p12 := Lib.hid p12; replace htl := Lib.hid htl
    go_wp2_with (first
      | (at_builtin; refine wpList_append_run _ rfl _ _ _ rfl rfl rfl happ12.out ?_)
      | (at_range; refine wpList_range_k _ rfl _ 114 rfl 3 25 uMapW bm intK M rfl hMK ?_; intro w13 hMR f13)
      | go_in)
    go_frame
    obtain ⟨rb, hrb⟩ : ∃ x, w12.heap.size = x := ⟨_, rfl⟩
    rw [hrb] at hMR hTW ⊢
    have s13 := hMR.lt.2.1
    have F13 := F12.out.trans f13
    have p13 := f13.pt p12.out (by simp)
    have hkeys := hK.out.keys
    have hKL : M.length = (walkT M0).length := by have := congrArg List.length hkeys; simpa using this
    have hok := hO.out
    have hM30 : M.length ≤ 30 := by have := hok.le; have := hn.out; omega
    have VAL : ∀ p ∈ M, NInB (fun b => b < rb) w13 p.2 (lookW (walkT M0) p.1) ∧ (lookW (walkT M0) p.1).length ≤ 30 := fun p hp => by
      obtain ⟨k, hk, rfl⟩ := List.getElem_of_mem hp
      have hk2 : k < (walkT M0).length := by omega
      have e1 : M[k].1 = (walkT M0)[k].1 := by
        have h1 : (M.map (·.1))[k]? = ((walkT M0).map (·.1))[k]? := by rw [hkeys]
        rw [List.getElem?_map, List.getElem?_map, List.getElem?_eq_getElem hk, List.getElem?_eq_getElem hk2] at h1
        simpa using h1
      rw [e1, lookW_at _ k hk2 hok.nd]
      have h1 := (((hK.out.val k hk hk2).frq F10.out (q' := fun b => b < w9.heap.size) (fun b hb _ => ⟨by simp, hb⟩)).frq f11.out (q' := fun b => b < w9.heap.size) (fun b hb h => ⟨by simp, h⟩)).frq f12.out (q' := fun b => b < w9.heap.size) (fun b hb h => ⟨by have := hb10.out; simp; omega, h⟩)
      refine ⟨h1.frq f13 (fun b hb h => ⟨by simp, by omega⟩), ?_⟩
      have := hok.len k hk2
      omega
    have RNG : ∀ p ∈ M, p.1 ∈ keyW (walkT M0) := fun p hp => by
      show p.1 ∈ (walkT M0).map (·.1)
      rw [← hkeys]; exact List.mem_map.mpr ⟨p, hp, rfl⟩
    have MW : ∀ x, x ∈ (M.map fun p => lookW (walkT M0) p.1) ↔ x ∈ coverL M0 := fun x => by
      rw [← hCW.out x]
      have e1 : (M.map fun p => lookW (walkT M0) p.1) = (walkT M0).map (·.2) := by
        have e2 : (M.map fun p => lookW (walkT M0) p.1) = (M.map (·.1)).map (lookW (walkT M0)) := by rw [List.map_map]; rfl
        rw [e2, hkeys, List.map_map]
        exact List.map_congr_left fun p hp => lookW_mem hok.nd hp
      rw [e1]
    have hTW13 : WSq (fun b => b < rb) w13 v12 tps := hTW.fr f13 (fun b _ h => ⟨by simp, h⟩)
    obtain ⟨tl, htl2⟩ : ∃ x, tellsOf M0 = x := ⟨_, rfl⟩
    have tlen2 := tlen.out
    have tsh2 := tsh.out
    rw [htl2] at tlen2 tsh2
    have htw2 := htw.out
    rw [htl2] at htw2
    have htlen : tps.length = tl.length + 1 := by have := congrArg List.length htw2; unfold wds at this; rw [List.length_map] at this; simpa using this
    obtain ⟨⟨bT, oT, cT, rfl, ht0, htc, hbT, hqT, hcT⟩, hnT⟩ := hTW13
    obtain ⟨tn, htn⟩ : ∃ x, tps.length = x := ⟨_, rfl⟩
    rw [htn]
    have htn3 := htlen
    rw [htn] at htn3
    have htnb : tn ≤ 901 := by omega
    clear ht0 htc
    obtain ⟨K, hK2⟩ : ∃ x, (m + 1) * (tl.length + 1) = x := ⟨_, rfl⟩
    have hK13 : K ≤ 13 * 901 := by rw [← hK2]; exact Nat.mul_le_mul (by omega) (by omega)
    have I0 : SuI (fun b => w13.heap.size ≤ b) w13 (.slice none 0 0) [] none (([] : List (List Int)).flatMap (sWords m tl)) := ⟨Wds.nil _ _ _, by simp [wds], by simp, by simp⟩
    have hrb0 : w.heap.size ≤ rb := by have := F12.out.size; omega
    have QB := fun (W : World) (f : Fr [rb] w13 W) => (f.pt p13 (by have := p12.out.lt; simp; omega)).cell
    have hbm : bm < rb := by have := hMK.lt; omega
    clear hMK hTW
    replace hrb := Lib.hid hrb; replace F13 := Lib.hid F13; replace f13 := Lib.hid f13; replace p13 := Lib.hid p13; replace hkeys := Lib.hid hkeys; replace hKL := Lib.hid hKL; replace hok := Lib.hid hok; replace VAL := Lib.hid VAL; replace RNG := Lib.hid RNG; replace MW := Lib.hid MW; replace hbT := Lib.hid hbT; replace hqT := Lib.hid hqT; replace hcT := Lib.hid hcT; replace hnT := Lib.hid hnT; replace htn := Lib.hid htn; replace htn3 := Lib.hid htn3; replace htl2 := Lib.hid htl2; replace tlen2 := Lib.hid tlen2; replace tsh2 := Lib.hid tsh2; replace htw2 := Lib.hid htw2; replace htlen := Lib.hid htlen; replace hK2 := Lib.hid hK2; replace hK13 := Lib.hid hK13; replace I0 := Lib.hid I0; replace hrb0 := Lib.hid hrb0; replace QB := Lib.hid QB; replace s13 := Lib.hid s13; replace hM30 := Lib.hid hM30; replace hbm := Lib.hid hbm
    go_loopg [8] (M.length + 1) (fun kk v8 wr => ∃ (todo : List (Int × Value)) (done : List (List Int)) (ps : List (Value × List Int)) (b8' : Option Nat), kk = todo.length + 1 ∧ MapR intK wr bm rb M todo ∧ (done ++ todo.map fun p => lookW (walkT M0) p.1).Perm (M.map fun p => lookW (walkT M0) p.1) ∧ (∀ p ∈ todo, p ∈ M) ∧ SuI (fun b => w13.heap.size ≤ b) wr v8 ps b8' (done.flatMap (sWords m tl)) ∧ Fr [rb] w13 wr)
    case atStart => exact ⟨M, [], [], none, rfl, hMR, by simp, fun p hp => hp, I0.out, Fr.refl _ _⟩
    case round =>
      clear hMR
      obtain ⟨todo, done, ps, b8s, hkk, hMR, hperm, hsub, hI, hF⟩ := hrel
      obtain ⟨wo, rfl⟩ : ∃ x : World, x = wr := ⟨_, rfl⟩
      obtain ⟨go, rfl⟩ : ∃ g : Nat, g = gk := ⟨_, rfl⟩
      replace hperm := Lib.hid hperm; replace hsub := Lib.hid hsub; replace hI := Lib.hid hI; replace hF := Lib.hid hF
      go_wp2_with (first
        | (at_next; refine wpList_next_k _ rfl _ rfl bm rb intK M todo rfl hMR ?_ ?_)
        | go_in)
      · intro h0
        subst h0
        clear hMR
        have hI' := hI.out
        have hdl : done.length = M.length := by
          have h1 := hperm.out.length_eq
          simpa using h1
        have hlen := hI'.len
        rw [flat_words m tl done, hK2.out] at hlen
        have hps : ps.length ≤ 1000000 := by
          rw [hlen]
          have : done.length * K ≤ 30 * (13 * 901) := Nat.mul_le_mul (by have := hM30.out; omega) hK13.out
          omega
        have OC := once_any _ wo u8 ps b8s hI'.wd (fun p hp => by have := hI'.sh p hp; omega) hps
        obtain ⟨o8, c8, rfl⟩ := hI'.wd.row.len
        have hset : ∀ x, x ∈ wds ps ↔ x ∈ (coverL M0).flatMap (sWords m tl) := fun x => by
          rw [hI'.eq, List.mem_flatMap, List.mem_flatMap]
          have hd : ∀ y, y ∈ done ↔ y ∈ coverL M0 := fun y => by
            rw [← MW.out y, ← hperm.out.mem_iff]
            simp
          constructor
          · rintro ⟨y, hy, hxy⟩; exact ⟨y, (hd y).mp hy, hxy⟩
          · rintro ⟨y, hy, hxy⟩; exact ⟨y, (hd y).mpr hy, hxy⟩
        have hon : onceF (wds ps) = onceF ((coverL M0).flatMap (sWords m tl)) := once_congr hset
        have hev2 : M0.ev.toNat = m := by rw [hevM.out]; exact hm.out
        have hsu : suiteL M0 tl = wholeL (onceF (wds ps)) := by unfold suiteL; rw [hev2, hon]
        have hpos : ∃ x, x ∈ onceF (wds ps) := by
          have h1 : 0 < M.length := by
            rw [hKL.out]
            obtain ⟨_, ⟨t, ht⟩, _⟩ := walkF_law hLV.out 40 0 _ rfl (WOk.start hLV.out) ⟨[], rfl⟩ (fun k hk hki => by omega)
            show 0 < (walkF M0 40 0 [(M0.sr, [])]).length
            rw [ht]; simp
          obtain ⟨y, hy⟩ : ∃ y, y ∈ done := ⟨done[0]'(by omega), List.getElem_mem _⟩
          refine ⟨y ++ [], (onceF_mem _ _).mpr ?_⟩
          rw [hI'.eq, List.mem_flatMap]
          refine ⟨y, hy, ?_⟩
          rw [sWords_eq]
          unfold sHead
          rw [List.mem_flatMap]
          exact ⟨y, by simp [headsL], List.mem_map.mpr ⟨[], by simp, rfl⟩⟩
        replace hI' := Lib.hid hI'; replace hdl := Lib.hid hdl; replace hlen := Lib.hid hlen; replace hps := Lib.hid hps; replace OC := Lib.hid OC; replace hset := Lib.hid hset; replace hon := Lib.hid hon; replace hsu := Lib.hid hsu; replace hpos := Lib.hid hpos
        go_wp2_with fail
        refine OC.out.mono ?_
        rintro e w20 ⟨v20, ps20, rfl, he20, hW20, hm20, f20⟩
        have hp20 : 0 < ps20.length := by
          obtain ⟨x, hx9⟩ := hpos.out
          rw [← he20] at hx9
          unfold wds at hx9
          obtain ⟨p, hp, _⟩ := List.mem_map.mp hx9
          exact List.length_pos_of_mem hp
        have hF20 : Fr [rb] w13 w20 := hF.out.step f20 (fun z hz => .inr (hI'.out.wd.qo z (by simpa using hz)))
        have hl20 : ps20.length ≤ 1000000 := by
          have h1 := congrArg List.length he20
          unfold wds at h1
          rw [List.length_map] at h1
          rw [h1]
          have h2 : ∀ (l a : List (List Int)), (l.foldl (fun a w => insW w a) a).length ≤ l.length + a.length := by
            intro l
            induction l with
            | nil => intro a; simp
            | cons w l ih =>
              intro a
              have h1 := ih (insW w a)
              have h2 := insW_len w a
              simp only [List.foldl_cons, List.length_cons]
              omega
          have h3 := h2 (ps.map (·.2)) []
          unfold onceF
          rw [List.length_map, List.length_nil] at h3
          have := hps.out
          omega
        have WC := whole_any _ w20 v20 ps20 b8s hW20 (fun z hz => by have := hF20.size; omega) (by rw [he20]; exact onceF_asc _) hp20 hl20 (fun p hp => by have := hI'.out.sh p (hm20 p hp); omega) (fun p hp => hI'.out.cap p (hm20 p hp))
        rw [he20] at WC
        obtain ⟨o20, c20, rfl⟩ := hW20.row.len
        replace he20 := Lib.hid he20; replace hW20 := Lib.hid hW20; replace hm20 := Lib.hid hm20; replace f20 := Lib.hid f20; replace hp20 := Lib.hid hp20; replace hF20 := Lib.hid hF20; replace hl20 := Lib.hid hl20; replace WC := Lib.hid WC
        go_wp2_with fail
        refine WC.out.mono ?_
        rintro e w21 ⟨v21, ps21, bo21, rfl, he21, hW21, f21⟩
        rw [← hsu.out] at he21
        have hS21 := hW21.sin
        rw [show ps21.map (·.2) = suiteL M0 tl from he21] at hS21
        have hlen21 : ps21.length = (suiteL M0 tl).length := by rw [← he21]; unfold wds; exact (List.length_map _).symm
        have hx9 := hx.out
        rw [htl2.out] at hx9
        have FF : Fr [] w w21 := (F13.out.step hF20.out (fun z hz => .inr (by have := hrb0.out; simp at hz; omega))).trans f21
        obtain ⟨o21, c21, rfl⟩ := hW21.row.len
        obtain ⟨n21, hn21⟩ : ∃ x, ps21.length = x := ⟨_, rfl⟩
        rw [hn21] at hlen21 hS21 ⊢
        by_cases hbig : 3000 < n21
        · rw [if_pos (by rw [← hlen21]; exact hbig)] at hx9
          obtain ⟨rfl, rfl⟩ : [] = X ∧ 2 = z := by simpa using hx9
          have hbigI : (3000 : Int) < (n21 : Int) := by omega
          have GO : CvR [] 2 w (.returned (.tuple #[.slice none 0 0, .int .i64 2])) w21 := ⟨_, rfl, ⟨none, 0, rfl, fun i hi => by simp at hi⟩, FF⟩
          clear hx9
          replace he21 := Lib.hid he21; replace hW21 := Lib.hid hW21; replace f21 := Lib.hid f21; replace hS21 := Lib.hid hS21; replace hlen21 := Lib.hid hlen21; replace hn21 := Lib.hid hn21; replace FF := Lib.hid FF; replace GO := Lib.hid GO
          go_wp2_with fail
          refine bodyPost_ret (v := .tuple #[.slice none 0 0, .int .i64 2]) (by simp [results, Try.results46, go_sem]) rfl GO.out
        · rw [if_neg (by rw [← hlen21]; exact hbig)] at hx9
          obtain ⟨hx1, rfl⟩ : suiteL M0 tl = X ∧ 0 = z := by simpa using hx9
          have hbigI : ¬ (3000 : Int) < (n21 : Int) := by omega
          have GO : CvR X 0 w (.returned (.tuple #[.slice o21 n21 c21, .int .i64 0])) w21 := ⟨_, rfl, by rw [← hx1]; exact hS21, FF⟩
          clear hx9
          replace he21 := Lib.hid he21; replace hW21 := Lib.hid hW21; replace f21 := Lib.hid f21; replace hS21 := Lib.hid hS21; replace hlen21 := Lib.hid hlen21; replace hn21 := Lib.hid hn21; replace FF := Lib.hid FF; replace GO := Lib.hid GO; replace hx1 := Lib.hid hx1
          go_wp2_with fail
          refine bodyPost_ret (v := .tuple #[.slice o21 n21 c21, .int .i64 0]) (by simp [results, Try.results46, go_sem]) rfl GO.out
      · intro k v0 todo' w1 hp hmr hf hen
        clear hMR
        have hpm : (k, v0) ∈ M := hsub.out _ (hp.mem_iff.mpr (by simp))
        obtain ⟨hvv, hcl⟩ := VAL.out _ hpm
        dsimp only at hvv hcl
        obtain ⟨c, hc⟩ : ∃ x, lookW (walkT M0) k = x := ⟨_, rfl⟩
        rw [hc] at hvv hcl
        have hF1 : Fr [rb] w13 w1 := hF.out.trans hf
        have hv1 : NInB (fun b => b < rb) w1 v0 c := hvv.frq hF1 (fun b _ h => ⟨by simp; omega, h⟩)
        obtain ⟨oc, cc, rfl, _⟩ := hv1.nin
        have hI1 := hI.out.fr hf (fun x hx => by have := s13.out; simp at hx; omega)
        have hk1 : w1.cell? ⟨b1, 1, none⟩ = some (.int .i64 T.ev) := QB.out w1 hF1 1
        have hen2 : (Instr.entry (.pointer (some ⟨rb, 0, none⟩))).run Try.prog w1 = .ok (.tuple #[.int .i64 k, .slice oc c.length cc]) w1 := hen
        have hr1 := Row.of1 w1 (.slice oc c.length cc)
        obtain ⟨w2, hw2⟩ : ∃ x, w1.alloc (.cells #[.slice oc c.length cc] 25) = x := ⟨_, rfl⟩
        have f2 : Fr [] w1 w2 := by rw [← hw2]; exact (Fr.refl [] w1).alloc _
        rw [hw2] at hr1
        obtain ⟨bh, hbh⟩ : ∃ x, w1.heap.size = x := ⟨_, rfl⟩
        rw [hbh] at hr1
        have hk2 : w2.cell? ⟨b1, 1, none⟩ = some (.int .i64 T.ev) := QB.out w2 (hF1.step f2 (by simp)) 1
        have H0 : Wds (fun b => b < rb ∨ bh ≤ b) w2 (.slice (some ⟨bh, 0, none⟩) 1 1) [(.slice oc c.length cc, c)] (some bh) := by
          refine ⟨hr1, fun p hp => ?_, fun z hz => by cases hz; exact .inr (Nat.le_refl _)⟩
          simp at hp
          subst hp
          exact hv1.frq f2 (fun b hb h => ⟨by simp, .inl h, by have := hmr.lt.2.1; simp; omega⟩)
        clear hen
        simp only [intK]
        replace hp := Lib.hid hp; replace hmr := Lib.hid hmr; replace hf := Lib.hid hf; replace hpm := Lib.hid hpm; replace hvv := Lib.hid hvv; replace hcl := Lib.hid hcl; replace hc := Lib.hid hc; replace hF1 := Lib.hid hF1; replace hv1 := Lib.hid hv1; replace hI1 := Lib.hid hI1; replace hr1 := Lib.hid hr1; replace f2 := Lib.hid f2; replace H0 := Lib.hid H0
        go_wp2_with fail
        replace hw2 := Lib.hid hw2; replace hbh := Lib.hid hbh
        clear hk1 hk2 hen2
        go_loopg [11, 41] (m + 1) (fun kk v11 v41 wr => ∃ (e : Nat) (hps : List (Value × List Int)) (b11 : Option Nat), e ≤ m ∧ kk + e = m + 1 ∧ v41 = .int .i64 e ∧ Wds (fun b => b < rb ∨ bh ≤ b) wr v11 hps b11 ∧ wds hps = headsTo c e ∧ (∀ z, b11 = some z → bh ≤ z) ∧ Fr [] w1 wr)
        case atStart => exact ⟨0, _, _, by omega, by omega, by go_num, H0.out, rfl, fun z hz => by cases hz; exact Nat.le_refl _, f2.out⟩
        case round =>
          obtain ⟨e, hps, b11, he, hk2, rfl, hH, heq, hb11, hF2⟩ := hrel
          obtain ⟨we, rfl⟩ : ∃ x : World, x = wr := ⟨_, rfl⟩
          obtain ⟨ge, rfl⟩ : ∃ g : Nat, g = gk := ⟨_, rfl⟩
          have hhl : hps.length = e + 1 := by have := congrArg List.length heq; unfold wds headsTo at this; rw [List.length_map] at this; simpa using this
          by_cases hlt : e < m
          · as_aux_lemma =>
            have hltI : (e : Int) < T.ev := by rw [hmI.out]; omega
            have CC := clone_any (.slice oc c.length cc) c we (hv1.out.nin.fr hF2) (by have := hcl.out; omega)
            replace hH := Lib.hid hH; replace heq := Lib.hid heq; replace hb11 := Lib.hid hb11; replace hF2 := Lib.hid hF2; replace hhl := Lib.hid hhl; replace CC := Lib.hid CC
            go_wp2_with fail
            refine CC.out.mono ?_
            rintro e9 w3 ⟨v3, b3, rfl, hr3, hb3, f3⟩
            obtain ⟨v5, w5, b5, happ, hr5, hb5, f5⟩ := hr3.one (by have := hcl.out; omega) (e : Int)
            have s3 := f3.size
            have F5 : Fr [] we w5 := f3.step f5 (fun z hz => .inr (hb3 z (by simpa using hz)))
            have n5 : NInB (fun b => we.heap.size ≤ b) w5 v5 (c ++ [(e : Int)]) := hr5.ninb (fun z hz => by
              rcases hb5 with e' | ⟨z', e', h⟩
              · exact hb3 z (by rw [← e']; exact hz)
              · rw [hz] at e'; cases e'; omega)
            have hln : (hps.map (·.1)).length = hps.length := List.length_map _
            have hr11 : Row 1 w5 u11 (hps.map (·.1)).length (hps.map (·.1)) b11 := by rw [hln]; exact hH.out.row.fr F5 (by simp)
            obtain ⟨v7, w7', b7, happ7, hr7, hb7, f7'⟩ := hr11.oneWs (by rw [hln, hhl.out]; omega) v5 n5.nin.one1
            have hse := hF2.out.size
            have hsw2 := hbh.out
            have NX := hH.out.add F5 n5 (fun z hz => .inr (by omega)) hr7 hb7 f7'
            have NE : wds (hps ++ [(v5, c ++ [(e : Int)])]) = headsTo c (e + 1) := by
              rw [headsTo_succ, ← heq.out]
              unfold wds
              rw [List.map_append]; rfl
            have NB : ∀ z, b7 = some z → bh ≤ z := fun z hz => by
              rcases hb7 with e' | ⟨z', e', h⟩
              · exact hb11.out z (by rw [← e']; exact hz)
              · rw [hz] at e'; cases e'; have := F5.size; omega
            have NF : Fr [] w1 w7' := (hF2.out.trans F5).step f7' (fun z hz => .inr (by have := hb11.out z (by simpa using hz); have := hbh.out; omega))
            obtain ⟨o3, c3, rfl⟩ := hr3.len
            obtain ⟨o5, c5, hv5⟩ := hr5.len
            rw [List.length_append, List.length_singleton] at hv5
            subst hv5
            replace hr3 := Lib.hid hr3; replace hb3 := Lib.hid hb3; replace f3 := Lib.hid f3; replace happ := Lib.hid happ; replace hr5 := Lib.hid hr5; replace hb5 := Lib.hid hb5; replace f5 := Lib.hid f5; replace F5 := Lib.hid F5; replace n5 := Lib.hid n5; replace hr11 := Lib.hid hr11; replace happ7 := Lib.hid happ7; replace hr7 := Lib.hid hr7; replace hb7 := Lib.hid hb7; replace f7' := Lib.hid f7'; replace NX := Lib.hid NX; replace NE := Lib.hid NE; replace NB := Lib.hid NB; replace NF := Lib.hid NF
            go_wp2_with (first | (at_builtin; refine wpList_append_run _ rfl _ _ _ rfl rfl rfl happ.out ?_) | (at_builtin; refine wpList_append_run _ rfl _ _ _ rfl rfl rfl happ7.out ?_))
            go_roundg (ge - 1)
            case measure => omega
            case rel => exact ⟨e + 1, _, _, by omega, by omega, by go_num, NX.out, NE.out, NB.out, NF.out⟩
          · obtain rfl : e = m := by omega
            have hltI : ¬ (e : Int) < T.ev := by rw [hmI.out]; omega
            have hHW : WSq (fun b => (b < rb ∨ bh ≤ b) ∧ b < we.heap.size) we u11 hps := WSq.of hH.row (by omega) (fun z hz => ⟨hH.qo z hz, by have h3 := hH.row; rw [hz] at h3; exact h3.lt⟩) (fun p hp => (hH.each p hp).frq (Fr.refl [] we) (fun b hb h => ⟨by simp, h.1, hb⟩))
            have hb8 : ∀ z ∈ b8s.toList, z < bh ∧ w13.heap.size ≤ z := fun z hz => by
              have hz' : b8s = some z := by simpa using hz
              have h3 := hI1.out.wd.row
              rw [hz'] at h3
              have := h3.lt
              have hq1 : w13.heap.size ≤ z := hI1.out.wd.qo z hz'
              have := hbh.out
              exact ⟨by omega, hq1⟩
            have hI5 := hI1.out.fr hF2 (by simp)
            have hF15 : Fr [rb] w13 we := hF1.out.trans (hF2.mono (by simp))
            obtain ⟨ohs, chs, rfl⟩ := hH.row.len
            rw [hhl] at hHW ⊢
            have hlen8 := hI5.len
            have hW0 := flat_words e tl done
            have hdl : done.length + todo'.length + 1 = M.length := by
              have h1 := hperm.out.length_eq
              have h2 := hp.out.length_eq
              simp only [List.length_append, List.length_map, List.length_cons] at h1 h2
              omega
            have hbhw : bh ≤ we.heap.size := by have := hF2.size; have := hbh.out; omega
            have hbd : (done.flatMap (sWords e tl)).length + 13 * 901 ≤ 500000 := by
              rw [hW0, hK2.out]
              have : done.length * K ≤ 30 * (13 * 901) := Nat.mul_le_mul (by have := hM30.out; omega) hK13.out
              omega
            have J0 : SuI (fun b => w13.heap.size ≤ b) we u8 ps b8s (done.flatMap (sWords e tl) ++ sHead ([] :: tl) ((headsL e c).take 0)) := by
              simpa [sHead] using hI5
            obtain ⟨w5, rfl⟩ : ∃ x : World, x = we := ⟨_, rfl⟩
            replace hH := Lib.hid hH; replace heq := Lib.hid heq; replace hb11 := Lib.hid hb11; replace hF2 := Lib.hid hF2; replace hhl := Lib.hid hhl; replace hHW := Lib.hid hHW; replace hb8 := Lib.hid hb8; replace hI5 := Lib.hid hI5; replace hF15 := Lib.hid hF15; replace hlen8 := Lib.hid hlen8; replace hW0 := Lib.hid hW0; replace hdl := Lib.hid hdl; replace hbhw := Lib.hid hbhw; replace hbd := Lib.hid hbd; replace J0 := Lib.hid J0
            go_wp2_with fail
            go_loopg [8, 55] (e + 2) (fun kk v8 v55 wr => ∃ (i : Nat) (ps : List (Value × List Int)) (b8' : Option Nat), i ≤ e + 1 ∧ kk + i = e + 2 ∧ v55 = .int .i64 i ∧ SuI (fun b => w13.heap.size ≤ b) wr v8 ps b8' (done.flatMap (sWords e tl) ++ sHead ([] :: tl) ((headsL e c).take i)) ∧ (b8' = b8s ∨ ∃ z, b8' = some z ∧ w5.heap.size ≤ z) ∧ Fr b8s.toList w5 wr)
            case atStart => exact ⟨0, _, _, by omega, by omega, by go_num, J0.out, .inl rfl, Fr.refl _ _⟩
            case round =>
              obtain ⟨i, ps2, b82, hi, hk3, rfl, hJ, hbb, hF3⟩ := hrel
              obtain ⟨wi, rfl⟩ : ∃ x : World, x = wr := ⟨_, rfl⟩
              obtain ⟨gi, rfl⟩ : ∃ g : Nat, g = gk := ⟨_, rfl⟩
              by_cases hlt2 : i < e + 1
              · have hlt2I : (i : Int) < (e : Int) + 1 := by omega
                have HH := hHW.out.fr hF3 (q' := fun b => (b < rb ∨ bh ≤ b) ∧ b < w5.heap.size) (fun b _ h => ⟨fun hm => by have := hb8.out b hm; have := s13.out; omega, h⟩)
                obtain ⟨⟨bH, oH, cH, e9, _, _, hbH, hqH, hcH⟩, hnH⟩ := HH
                simp only [Value.slice.injEq] at e9
                obtain ⟨rfl, hx9, rfl⟩ := e9
                clear hx9
                have hip : i < hps.length := by have := hhl.out; omega
                have c1 := hcH i hip
                have hmem := List.getElem_mem hip
                have hnh := hnH _ hmem
                have hih : i < (headsL e c).length := by rw [headsL_len]; exact hlt2
                have hwh : hps[i].2 = (headsL e c)[i] := by
                  have h1 : (wds hps)[i]? = (headsTo c e)[i]? := by rw [heq.out]
                  unfold wds at h1
                  rw [List.getElem?_map, List.getElem?_eq_getElem hip, headsTo_all, List.getElem?_eq_getElem hih] at h1
                  simpa using h1
                have hlh : hps[i].2.length ≤ 31 := by
                  have := headsL_lens (List.getElem_mem hih)
                  rw [← hwh] at this
                  have := hcl.out
                  omega
                have hsucc := sHead_succ ([] :: tl) (headsL e c) i hih
                rw [← hwh] at hsucc
                obtain ⟨⟨hv, h⟩, hpi⟩ : ∃ x, hps[i] = x := ⟨_, rfl⟩
                rw [hpi] at c1 hnh hlh hsucc
                dsimp only at c1 hnh hlh hsucc
                obtain ⟨oh, ch, rfl, _⟩ := hnh.nin
                have htn2 := htn3.out
                obtain ⟨lh9, hlh9⟩ : ∃ x, h.length = x := ⟨_, rfl⟩
                rw [hlh9] at c1
                have J1 : SuI (fun b => w13.heap.size ≤ b) wi u8 ps2 b82 (done.flatMap (sWords e tl) ++ sHead ([] :: tl) ((headsL e c).take i) ++ (([] :: tl).take 0).map fun w => h ++ w) := by
                  simpa using hJ
                have hsl : (sHead ([] :: tl) ((headsL e c).take i)).length = i * tn := by
                  rw [sHead_len, List.length_take, headsL_len, List.length_cons, htn2, Nat.min_eq_left (by omega)]
                have hKt : (e + 1) * tn = K := by rw [htn2]; exact hK2.out
                have hit : i * tn + tn ≤ K := by
                  rw [← hKt]
                  have : (i + 1) * tn ≤ (e + 1) * tn := Nat.mul_le_mul (by omega) (Nat.le_refl _)
                  rw [Nat.add_mul, Nat.one_mul] at this
                  exact this
                replace hJ := Lib.hid hJ; replace hbb := Lib.hid hbb; replace hF3 := Lib.hid hF3; replace hbH := Lib.hid hbH; replace hqH := Lib.hid hqH; replace hcH := Lib.hid hcH; replace hnH := Lib.hid hnH; replace hip := Lib.hid hip; replace hmem := Lib.hid hmem; replace hnh := Lib.hid hnh; replace hih := Lib.hid hih; replace hwh := Lib.hid hwh; replace hlh := Lib.hid hlh; replace hsucc := Lib.hid hsucc; replace hpi := Lib.hid hpi; replace htn2 := Lib.hid htn2; replace J1 := Lib.hid J1; replace hsl := Lib.hid hsl; replace hKt := Lib.hid hKt; replace hit := Lib.hid hit; replace hlh9 := Lib.hid hlh9
                go_wp2_with fail
                clear c1
                go_loopg [8, 61] (tn + 1) (fun kk v8 v61 wr => ∃ (j : Nat) (ps : List (Value × List Int)) (b8' : Option Nat), j ≤ tn ∧ kk + j = tn + 1 ∧ v61 = .int .i64 j ∧ SuI (fun b => w13.heap.size ≤ b) wr v8 ps b8' (done.flatMap (sWords e tl) ++ sHead ([] :: tl) ((headsL e c).take i) ++ (([] :: tl).take j).map fun w => h ++ w) ∧ (b8' = b8s ∨ ∃ z, b8' = some z ∧ w5.heap.size ≤ z) ∧ Fr b8s.toList w5 wr)
                case atStart => exact ⟨0, _, _, by omega, by omega, by go_num, J1.out, hbb.out, hF3.out⟩
                case round =>
                  obtain ⟨j, ps3, b83, hj, hk4, rfl, hJ3, hbb3, hF4⟩ := hrel
                  obtain ⟨wj, rfl⟩ : ∃ x : World, x = wr := ⟨_, rfl⟩
                  by_cases hlt3 : j < tn
                  · as_aux_lemma =>
                    have hlt3I : (j : Int) < (tn : Int) := by omega
                    have hFb : Fr [rb] w13 wj := hF15.out.step hF4 (fun z hz => .inr (hb8.out z hz).2)
                    have hjp : j < tps.length := by have := htn.out; omega
                    have c2 := (hFb.cell (p := ⟨bT, oT + j, none⟩) hbT.out (by have := hqT.out; simp; omega)).trans (hcT.out j hjp)
                    have hmt := List.getElem_mem hjp
                    have hnt := ((hnT.out _ hmt).frq hFb (q' := fun _ => True) (fun b _ h => ⟨by simp; omega, trivial⟩)).nin
                    have hjt : j < (([] : List Int) :: tl).length := by have := htn2.out; simp; omega
                    have hwt : tps[j].2 = (([] : List Int) :: tl)[j] := by
                      have h1 : (wds tps)[j]? = (([] : List Int) :: tl)[j]? := by rw [htw2.out]
                      unfold wds at h1
                      rw [List.getElem?_map, List.getElem?_eq_getElem hjp, List.getElem?_eq_getElem hjt] at h1
                      simpa using h1
                    have hlt60 : tps[j].2.length ≤ 60 := by
                      have h1 : tps[j].2 ∈ (([] : List Int) :: tl) := by rw [hwt]; exact List.getElem_mem hjt
                      rcases List.mem_cons.mp h1 with h1 | h1
                      · rw [h1]; simp
                      · exact tsh2.out _ h1
                    have hts := List.take_succ_eq_append_getElem hjt
                    rw [← hwt] at hts
                    obtain ⟨⟨tv, t⟩, hpt⟩ : ∃ x, tps[j] = x := ⟨_, rfl⟩
                    rw [hpt] at c2 hnt hlt60 hts
                    dsimp only at c2 hnt hlt60 hts
                    have hnt2 := hnt
                    obtain ⟨ott, ctt, rfl, _⟩ := hnt2
                    have hnhj : NIn wj (.slice oh h.length ch) h := by
                      have h1 := hHW.out.2 _ hmem.out
                      rw [hpi.out] at h1
                      exact (h1.frq hF4 (q' := fun _ => True) (fun b _ hq => ⟨fun hm => by have := hb8.out b hm; have := s13.out; have := hq.1; omega, trivial⟩)).nin
                    have CC : Calls Try.prog 80 #[.slice (some ⟨wj.heap.size, 0, none⟩) 2 2] (wj.alloc (.cells #[.slice oh h.length ch, .slice ott t.length ctt] 25)) fun e w' => ∃ v' bo, e = .returned v' ∧ Row 1 w' v' (h ++ t).length (ints (h ++ t)) bo ∧ (∀ z, bo = some z → (wj.alloc (.cells #[.slice oh h.length ch, .slice ott t.length ctt] 25)).heap.size ≤ z) ∧ Fr [] (wj.alloc (.cells #[.slice oh h.length ch, .slice ott t.length ctt] 25)) w' := by
                      have h1 := concat_any (.slice (some ⟨wj.heap.size, 0, none⟩) 2 2) [(.slice oh h.length ch, h), (.slice ott t.length ctt, t)] _ (two_wsl hnhj hnt) (by simp) (by
                        intro p hp
                        simp at hp
                        have h2 := hlh.out
                        rcases hp with rfl | rfl
                        · dsimp only; omega
                        · dsimp only; omega)
                      rw [show catL [(Value.slice oh h.length ch, h), (Value.slice ott t.length ctt, t)] [(Value.slice oh h.length ch, h), (Value.slice ott t.length ctt, t)].length = h ++ t by simp [catL]] at h1
                      exact h1
                    have hlj : ps3.length ≤ 1000000 := by
                      have h1 := hJ3.len
                      rw [h1, List.length_append, List.length_append, hsl.out, List.length_map, List.length_take]
                      have h2 := hbd.out
                      have h3 := hit.out
                      have h4 := hK13.out
                      omega
                    have hw13 : w13.heap.size ≤ wj.heap.size := hFb.size
                    have hw5 : w5.heap.size ≤ wj.heap.size := hF4.size
                    obtain ⟨lt9, hlt9⟩ : ∃ x, t.length = x := ⟨_, rfl⟩
                    have hlht : (h ++ t).length = lh9 + lt9 := by rw [List.length_append, hlh9.out, hlt9]
                    have hlht5 : (h ++ t).length ≤ 500 := by have := hlh.out; have := hlh9.out; omega
                    rw [hlh9.out, hlt9] at CC
                    rw [hlht] at CC
                    rw [hlt9] at c2
                    have fal : Fr [] wj (wj.alloc (.cells #[.slice oh lh9 ch, .slice ott lt9 ctt] 25)) := (Fr.refl [] wj).alloc _
                    replace hJ3 := Lib.hid hJ3; replace hbb3 := Lib.hid hbb3; replace hF4 := Lib.hid hF4; replace hFb := Lib.hid hFb; replace hmt := Lib.hid hmt; replace hnt := Lib.hid hnt; replace hwt := Lib.hid hwt; replace hlt60 := Lib.hid hlt60; replace hts := Lib.hid hts; replace hpt := Lib.hid hpt; replace hnhj := Lib.hid hnhj; replace CC := Lib.hid CC; replace hlj := Lib.hid hlj; replace hw13 := Lib.hid hw13; replace hw5 := Lib.hid hw5; replace hlt9 := Lib.hid hlt9; replace hlht := Lib.hid hlht; replace hlht5 := Lib.hid hlht5; replace fal := Lib.hid fal; replace hjp := Lib.hid hjp; replace hjt := Lib.hid hjt
                    go_wp2_with fail
                    refine CC.out.mono ?_
                    rintro e9 wc ⟨vc, bc, rfl, hrc, hbc, fc⟩
                    have fwc := fal.out.trans fc
                    obtain ⟨v9, w9', b9, happ, NI, hb9, f9'⟩ := hJ3.out.add hlj.out fwc (fun z hz => by have := hw13.out; omega) (word := h ++ t) (by rw [hlht.out]; exact hrc) (fun z hz => by have := hbc z hz; have := fal.out.size; omega) hlht5.out
                    have NE : SuI (fun b => w13.heap.size ≤ b) w9' v9 (ps3 ++ [(vc, h ++ t)]) b9 (done.flatMap (sWords e tl) ++ sHead ([] :: tl) ((headsL e c).take i) ++ (([] :: tl).take (j + 1)).map fun w => h ++ w) := by
                      rw [hts.out, List.map_append, ← List.append_assoc]
                      exact NI
                    have NB : b9 = b8s ∨ ∃ z, b9 = some z ∧ w5.heap.size ≤ z := by
                      rcases hb9 with e' | ⟨z', e', h9⟩
                      · rw [e']; exact hbb3.out
                      · exact .inr ⟨z', e', by have := hw5.out; have := fwc.size; omega⟩
                    have NF : Fr b8s.toList w5 w9' := hF4.out.step f9' (fun z hz => by
                      rcases hbb3.out with e' | ⟨z', e', h9⟩
                      · rw [e'] at hz; exact .inl hz
                      · rw [e'] at hz; simp at hz; exact .inr (by omega))
                    obtain ⟨oc9, cc9, rfl⟩ := hrc.len
                    replace hrc := Lib.hid hrc; replace hbc := Lib.hid hbc; replace fc := Lib.hid fc; replace fwc := Lib.hid fwc; replace happ := Lib.hid happ; replace NI := Lib.hid NI; replace hb9 := Lib.hid hb9; replace f9' := Lib.hid f9'; replace NE := Lib.hid NE; replace NB := Lib.hid NB; replace NF := Lib.hid NF
                    go_wp2_with (first | (at_builtin; refine wpList_append_run _ rfl _ _ _ rfl rfl rfl happ.out ?_))
                    go_roundg (gk - 1)
                    case measure => omega
                    case rel => exact ⟨j + 1, _, _, by omega, by omega, by go_num, NE.out, NB.out, NF.out⟩
                  · as_aux_lemma =>
                    obtain rfl : j = tn := by omega
                    have hlt3I : ¬ (j : Int) < (j : Int) := by omega
                    have NE : SuI (fun b => w13.heap.size ≤ b) wj u8 ps3 b83 (done.flatMap (sWords e tl) ++ sHead ([] :: tl) ((headsL e c).take (i + 1))) := by
                      rw [hsucc.out, ← List.append_assoc]
                      have h1 := hJ3
                      rw [List.take_of_length_le (l := [] :: tl) (by have := htn2.out; simp; omega)] at h1
                      exact h1
                    replace hJ3 := Lib.hid hJ3; replace hbb3 := Lib.hid hbb3; replace hF4 := Lib.hid hF4; replace NE := Lib.hid NE
                    go_wp2_with fail
                    go_roundg (gi - 1)
                    case measure => omega
                    case rel => exact ⟨i + 1, _, _, by omega, by omega, by go_num, NE.out, hbb3.out, hF4.out⟩
              · as_aux_lemma =>
                obtain rfl : i = e + 1 := by omega
                have hlt2I : ¬ ((e : Int) + 1) < (e : Int) + 1 := by omega
                have NE : SuI (fun b => w13.heap.size ≤ b) wi u8 ps2 b82 ((done ++ [c]).flatMap (sWords e tl)) := by
                  have h1 := hJ
                  rw [List.take_of_length_le (l := headsL e c) (by rw [headsL_len]; exact Nat.le_refl _), ← sWords_eq] at h1
                  rw [List.flatMap_append]
                  simpa using h1
                have NF : Fr [rb] w13 wi := hF15.out.step hF3 (fun z hz => .inr (hb8.out z hz).2)
                have NP : ((done ++ [c]) ++ todo'.map fun p => lookW (walkT M0) p.1).Perm (M.map fun p => lookW (walkT M0) p.1) := by
                  refine List.Perm.trans ?_ hperm.out
                  have h1 : (todo.map fun p => lookW (walkT M0) p.1).Perm (c :: todo'.map fun p => lookW (walkT M0) p.1) := by
                    have := hp.out.map (fun p : Int × Value => lookW (walkT M0) p.1)
                    rw [List.map_cons] at this
                    dsimp only at this
                    rw [hc.out] at this
                    exact this
                  rw [List.append_assoc]
                  exact (List.Perm.append_left done h1).symm
                have NS : ∀ p ∈ todo', p ∈ M := fun p hp' => hsub.out p (hp.out.mem_iff.mpr (by simp [hp']))
                have NR : MapR intK wi bm rb M todo' := (hmr.out.fr hF2.out (by simp) (by simp)).fr hF3 (fun hm => by have := hb8.out _ hm; have := hbm.out; have := s13.out; omega) (fun hm => by have := hb8.out _ hm; have := s13.out; omega)
                have hlen := hp.out.length_eq
                replace hJ := Lib.hid hJ; replace hbb := Lib.hid hbb; replace hF3 := Lib.hid hF3; replace NE := Lib.hid NE; replace NF := Lib.hid NF; replace NP := Lib.hid NP; replace NS := Lib.hid NS; replace NR := Lib.hid NR; replace hlen := Lib.hid hlen
                go_wp2_with fail
                go_roundg (todo'.length + 1)
                case measure => have := hlen.out; simp at this; omega
                case rel => exact ⟨todo', _, _, _, rfl, NR.out, NP.out, NS.out, NE.out, NF.out⟩
end Go.Proofs.Ytnggimkkjdipmaa