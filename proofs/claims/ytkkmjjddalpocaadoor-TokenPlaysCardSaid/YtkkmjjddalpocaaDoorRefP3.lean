import Derived.Test.YtkkmjjddalpocaaDoorRefP2
namespace Go.Proofs.YtkkmjjddalpocaaDoor
open Go.RowKit
set_option linter.unusedVariables false
set_option linter.unusedSimpArgs false
set_option maxHeartbeats 8000000
set_option maxRecDepth 20000
theorem rplay_bad (m t : Int) (dv : Value) (ds : List Int) (w : World) (hD : IntArg w dv ds) (hbad : setOk m t = false ∨ 300 < ds.length) :
    Calls Tryd.prog 24 #[.int .i64 m, .int .i64 t, dv] w (PlayPost (0, 0, 0, 1) w) := by
  obtain ⟨o, cap, rfl, _, hl⟩ := hD
  have P0 := Pt.newA w 53 #[.int .i64 0, .int .i64 0]
  obtain ⟨w0, hw0⟩ : ∃ x, w.alloc (.cells #[.int .i64 0, .int .i64 0] 53) = x := ⟨_, rfl⟩
  have f0 : Fr [] w w0 := by rw [← hw0]; exact (Fr.refl [] w).alloc _
  rw [hw0] at P0
  obtain ⟨br, hbr⟩ : ∃ x, w.heap.size = x := ⟨_, rfl⟩
  rw [hbr] at P0
  cases hs : setOk m t
  · have h1 := Lib.hid (rNew_bad m t w0 (by rw [← new_sim]; exact hs))
    clear hbad hl
    go_enter Tryd.func24, Tryd.ntmps24
    go_wp2_with fail
    refine h1.out.mono ?_
    rintro e w1 ⟨rfl, f1⟩
    have P1 := f1.pt P0 (by simp)
    have c1 := P1.cell
    have z1 := P1.free
    go_wp2_with fail
    refine bodyPost_ret (v := .tuple #[.agg #[.int .i64 0, .int .i64 0], .int .i64 0, .int .i64 1]) (by simp [results, Tryd.results24, go_sem, c1]) rfl ⟨rfl, ?_⟩
    have F : Fr [br] w w1 := (f0.trans f1).mono (by simp)
    exact ((F.setCell (by simp) _).setCell (by simp) _).below (Nat.le_refl _) (by simp; omega)
  · have hlen : (300 : Int) < ds.length := by
      rcases hbad with h | h
      · rw [hs] at h; cases h
      · omega
    have h1 := Lib.hid (rNew_ok m t w0 (by rw [← new_sim]; exact hs))
    clear hbad hl
    go_enter Tryd.func24, Tryd.ntmps24
    go_wp2_with fail
    refine h1.out.mono ?_
    rintro e w1 ⟨b1, rfl, _, q1, f1⟩
    have P1 := f1.pt P0 (by simp)
    have c1 := P1.cell
    have z1 := P1.free
    clear q1
    go_wp2_with fail
    refine bodyPost_ret (v := .tuple #[.agg #[.int .i64 0, .int .i64 0], .int .i64 0, .int .i64 1]) (by simp [results, Tryd.results24, go_sem, c1]) rfl ⟨rfl, ?_⟩
    have F : Fr [br] w w1 := (f0.trans f1).mono (by simp)
    exact ((F.setCell (by simp) _).setCell (by simp) _).below (Nat.le_refl _) (by simp; omega)
def onwS (p : PS) (i : Nat) : Int := if i = 0 then 0 else if i = 1 then sumG 0 p.wa else sumG (sumG 0 p.wa) p.wb
def PRx (base : Nat) (w : World) (bs bw b0 b1 : Nat) (p : PS) : Prop := ∃ v0 v1 o0 o1, PR base w bs bw b0 b1 p v0 v1 o0 o1
theorem rplay_any (m t : Int) (dv : Value) (ds : List Int) (w : World) (hD : IntArg w dv ds) (hok : setOk m t = true) (hlen : ds.length ≤ 300) :
    Calls Tryd.prog 24 #[.int .i64 m, .int .i64 t, dv] w (PlayPost (playP m t ds) w) := by
  have hPP : playP m t ds = ((runP (startP m t) ds).a.mine, (runP (startP m t) ds).b.mine, orGives (orGives 0 (runP (startP m t) ds).wa) (runP (startP m t) ds).wb, 0) := if_pos ⟨hok, hlen⟩
  rw [hPP]
  clear hPP
  obtain ⟨o, cap, rfl, hrange, hl⟩ := hD
  have hlenI : ¬ ((300 : Int) < ds.length) := by omega
  have P0 := Pt.newA w 53 #[.int .i64 0, .int .i64 0]
  obtain ⟨w0, hw0⟩ : ∃ x, w.alloc (.cells #[.int .i64 0, .int .i64 0] 53) = x := ⟨_, rfl⟩
  have f0 : Fr [] w w0 := by rw [← hw0]; exact (Fr.refl [] w).alloc _
  rw [hw0] at P0
  obtain ⟨br, hbr⟩ : ∃ x, w.heap.size = x := ⟨_, rfl⟩
  rw [hbr] at P0
  have hok' : setOk t m = true := by rw [setOk_comm]; exact hok
  have h1 := rNew_ok m t w0 (by rw [← new_sim]; exact hok)
  have h2 := fun w => rNew_ok t m w (by rw [← new_sim]; exact hok')
  rw [(new_both hok).2] at h1
  rw [(new_both hok').2] at h2
  replace h1 := Lib.hid h1; replace h2 := Lib.hid h2
  replace hl := Lib.hid hl
  replace hrange := Lib.hid hrange
  replace P0 := Lib.hid P0
  replace f0 := Lib.hid f0
  go_enter Tryd.func24, Tryd.ntmps24
  go_wp2_with fail
  refine h1.out.mono ?_
  rintro e w1 ⟨b0, rfl, lb0, q1, f1⟩
  have l0 : br < b0 := by have := P0.out.lt; omega
  have l01 : b0 < w1.heap.size := q1.lt
  replace q1 := Lib.hid q1
  replace f1 := Lib.hid f1
  go_wp2_with fail
  refine (h2.out w1).mono ?_
  rintro e w2 ⟨b1, rfl, lb1, q2, f2⟩
  have l1 : b0 < b1 := by omega
  have l2 : b1 < w2.heap.size := q2.lt
  replace q2 := Lib.hid q2
  replace f2 := Lib.hid f2
  obtain ⟨w3, hw3⟩ : ∃ x, w2.alloc (.cells #[.pointer (some ⟨b0, 0, none⟩), .pointer (some ⟨b1, 0, none⟩)] 68) = x := ⟨_, rfl⟩
  obtain ⟨w4, hw4⟩ : ∃ x, w3.alloc (.cells #[.slice none 0 0, .slice none 0 0] TWays) = x := ⟨_, rfl⟩
  obtain ⟨bs, hbs⟩ : ∃ x, w2.heap.size = x := ⟨_, rfl⟩
  obtain ⟨bw, hbw⟩ : ∃ x, w3.heap.size = x := ⟨_, rfl⟩
  have PS3 : Pt w3 bs 68 [.pointer (some ⟨b0, 0, none⟩), .pointer (some ⟨b1, 0, none⟩)] := by rw [← hw3, ← hbs]; exact Pt.newA _ _ _
  have PW4 : Pt w4 bw TWays [.slice none 0 0, .slice none 0 0] := by rw [← hw4, ← hbw]; exact Pt.newA _ _ _
  have g3 : Fr [] w2 w3 := by rw [← hw3]; exact (Fr.refl [] w2).alloc _
  have g4 : Fr [] w3 w4 := by rw [← hw4]; exact (Fr.refl [] w3).alloc _
  have lbw : bs < bw := by have := PS3.lt; omega
  have G : Fr [] w0 w4 := f1.out.trans (f2.out.trans (g3.trans g4))
  have hi1 : Inv (startP m t).a := ⟨rfl, hok⟩
  have hi2 : Inv (startP m t).b := ⟨rfl, hok'⟩
  obtain ⟨base, hbase⟩ : ∃ x, w0.heap.size = x := ⟨_, rfl⟩
  have lbr : br < base := by have := P0.out.lt; omega
  have lbb : base ≤ b0 := by omega
  have M4 : PRx base w4 bs bw b0 b1 (startP m t) := ⟨_, _, none, none, { sides := g4.pt PS3 (by simp), way := PW4, row0 := Row.nil 6 w4 none, row1 := Row.nil 6 w4 none, apart := by simp, new0 := by simp, new1 := by simp, sa := (f2.out.trans (g3.trans g4)).pt q1.out (by simp), sb := (g3.trans g4).pt q2.out (by simp), ge := by omega, ne := by omega, inva := hi1, invb := hi2 }⟩
  replace G := Lib.hid (G.below (n := base) (by omega) (by simp))
  replace M4 := Lib.hid M4
  have hJ : ∀ l, J (m + t) (runP (startP m t) l) := fun l => J_run l (J_start hok)
  have hub := (split_bits hok).1
  replace hJ := Lib.hid hJ
  replace PS3 := Lib.hid PS3; replace PW4 := Lib.hid PW4; replace g3 := Lib.hid g3; replace g4 := Lib.hid g4
  clear hi1 hi2 h1 h2
  go_wp2_with fail
  go_loopw [15] (fun v wr => ∃ (i : Nat), i ≤ ds.length ∧ v = .int .i64 i ∧ PRx base wr bs bw b0 b1 (runP (startP m t) (ds.take i)) ∧ Below base w0 wr) (fun v _ => (ds.length - intOf v).toNat)
  case atStart => exact ⟨0, by omega, rfl, M4.out, G.out⟩
  case round =>
    obtain ⟨i, hi0, rfl, hM, hB⟩ := hrel
    by_cases hlt : (i : Int) < ds.length
    · have hil : i < ds.length := by omega
      obtain ⟨B, off, rfl, hBl, hc⟩ := hl.out i hil
      obtain ⟨n, hn⟩ : ∃ n, ds[i] = n := ⟨_, rfl⟩
      have hnr := hrange.out _ (List.getElem_mem hil)
      rw [hn] at hc hnr
      have hcr : wr.cell? ⟨B, off + i, none⟩ = some (.int .i64 n) := by
        have hBB : B < base := by omega
        rw [hB.cell (p := ⟨B, off + i, none⟩) hBB, f0.out.cell (p := ⟨B, off + i, none⟩) hBl (by simp)]; exact hc
      replace hc := Lib.hid hc; replace hM := Lib.hid hM; replace hB := Lib.hid hB; replace hn := Lib.hid hn
      clear hw3 hw4 hw0
      have hm6 := fun w => mod_any n 6 w (by omega) (by omega)
      have hf6 := fun w => floor_any n w hnr.1 hnr.2
      have hm16 := fun w => mod_any (n / 6) 16 w (by omega) (by omega)
      have hm10 := fun w => mod_any (n / 6) 10 w (by omega) (by omega)
      have hst : Hid (runP (startP m t) (ds.take (i + 1)) = deedP (runP (startP m t) (ds.take i)) (n % 6) (n / 6)) := by
        show _ = _
        rw [runP_snoc _ _ _ hil, hn.out]; rfl
      have hql := Lib.hid (runP_len m t (ds.take i))
      have hJi := Lib.hid (hJ.out (ds.take i))
      obtain ⟨q, hq⟩ : ∃ q, runP (startP m t) (ds.take i) = q := ⟨_, rfl⟩
      obtain ⟨d, hd⟩ : ∃ d, n % 6 = d := ⟨_, rfl⟩
      obtain ⟨k, hk⟩ : ∃ k, n / 6 = k := ⟨_, rfl⟩
      have hd05 : 0 ≤ d ∧ d ≤ 5 := by omega
      rw [hq, hd, hk] at hst
      rw [hq] at hM hql hJi
      rw [hd] at hm6
      rw [hk] at hf6 hm16 hm10
      have W0 : wrap64 0 = 0 := by decide +kernel
      have W1 : wrap64 1 = 1 := by decide +kernel
      have W2 : wrap64 2 = 2 := by decide +kernel
      have lens : q.wa.length < 1000000 ∧ q.wb.length < 1000000 := by have := hql.out; rw [List.length_take] at this; omega
      replace lens := Lib.hid lens
      obtain ⟨v0, v1, o0, o1, HM⟩ := hM.out
      replace HM := Lib.hid HM
      clear hM hql hq hd hk hnr
      obtain ⟨ka, hka⟩ : ∃ x, k % 16 = x := ⟨_, rfl⟩
      obtain ⟨kb, hkb⟩ : ∃ x, k % 10 = x := ⟨_, rfl⟩
      have ka0 : 0 ≤ ka ∧ ka ≤ 15 := by omega
      have kb0 : 0 ≤ kb ∧ kb ≤ 9 := by omega
      rw [hka] at hm16
      rw [hkb] at hm10
      have hkA : Hid (askEv k = ⟨0, 1, ka, kb, 0, ByteArray.empty⟩) := by show _ = _; rw [askEv, hka, hkb]
      have hkG : Hid (giveEv k = ⟨0, 2, ka, 0, 0, ByteArray.empty⟩) := by show _ = _; rw [giveEv, hka]
      clear hka hkb
      replace hm6 := Lib.hid hm6; replace hf6 := Lib.hid hf6; replace hm16 := Lib.hid hm16; replace hm10 := Lib.hid hm10
      rcases (by omega : d = 0 ∨ d = 1 ∨ d = 2 ∨ d = 3 ∨ d = 4 ∨ d = 5) with rfl | rfl | rfl | rfl | rfl | rfl
      · -- d = 0
        go_wp2_with fail
        go_quiet (first | (go_at_call 38; exact Calls.quiet_of_same ((hm6.out _).mono fun _ _ h => ⟨h.1, h.2.symm⟩)) | (go_at_call 39; exact Calls.quiet_of_same ((hf6.out _).mono fun _ _ h => ⟨h.1, h.2.symm⟩)))
        go_wp2_with fail
        obtain ⟨wq, hwq⟩ : ∃ x, wr.drewN nq = x := ⟨_, rfl⟩
        have FQ : Fr [] wr wq := by rw [← hwq]; exact (Fr.refl [] wr).drewN nq
        rw [hwq]
        have HQ := HM.out.fr FQ
        refine (hm16.out wq).mono ?_
        rintro e w5 ⟨rfl, rfl⟩
        obtain ⟨we, hwe⟩ : ∃ x, wq.alloc (.cells #[.int .i64 0, .int .i64 1, .int .i64 ka, .int .i64 kb, .int .i64 0, .string { data := #[] }] TEv) = x := ⟨_, rfl⟩
        have PE : Pt (wq.alloc (.cells #[.int .i64 0, .int .i64 1, .int .i64 ka, .int .i64 kb, .int .i64 0, .string { data := #[] }] TEv)) wq.heap.size TEv [.int .i64 0, .int .i64 1, .int .i64 ka, .int .i64 kb, .int .i64 0, .string ByteArray.empty] := Pt.newA wq TEv #[.int .i64 0, .int .i64 1, .int .i64 ka, .int .i64 kb, .int .i64 0, .string { data := #[] }]
        rw [hwe] at PE
        obtain ⟨bx, hbx⟩ : ∃ x, wq.heap.size = x := ⟨_, rfl⟩
        rw [hbx] at PE
        have FE : Fr [] wq we := by rw [← hwe]; exact (Fr.refl [] wq).alloc _
        have HE := HQ.fr FE
        have FRE : Fr [] wr we := FQ.trans FE
        have hO := Lib.hid (ron_step b0 q.a ⟨0, 1, ka, kb, 0, ByteArray.empty⟩ we.drew HE.sa.drew HE.inva)
        dsimp only [Ev.val] at hO
        have hbxl : b0 < bx ∧ bs < bx ∧ bw < bx ∧ b1 < bx := by have h1 := HQ.sa.lt; have h2 := HQ.sides.lt; have h3 := HQ.way.lt; have h4 := HQ.sb.lt; omega
        have hS : ∀ w', Fr [b0] we.drew w' → (w'.cell? ⟨bs, 0, none⟩ = some (.pointer (some ⟨b0, 0, none⟩)) ∧ w'.cell? ⟨bx, 0, none⟩ = some (.int .i64 0) ∧ w'.cell? ⟨bx, 1, none⟩ = some (.int .i64 1) ∧ w'.cell? ⟨bx, 2, none⟩ = some (.int .i64 ka) ∧ w'.cell? ⟨bx, 3, none⟩ = some (.int .i64 kb) ∧ w'.cell? ⟨bx, 4, none⟩ = some (.int .i64 0) ∧ w'.cell? ⟨bx, 5, none⟩ = some (.string ByteArray.empty)) := fun w' hf => by
          have hne := HE.ne
          have c1 := (hf.pt HE.sides.drew (by simp; omega)).cell
          have c2 := (hf.pt PE.drew (by simp; omega)).cell
          refine ⟨c1 0, ?_, ?_, ?_, ?_, ?_, ?_⟩ <;> rw [c2] <;> rfl
        have hS00 := Lib.hid (hS _ (Fr.refl _ _))
        replace hS := Lib.hid hS; replace HQ := Lib.hid HQ; replace HE := Lib.hid HE; replace FRE := Lib.hid FRE; replace FQ := Lib.hid FQ; replace FE := Lib.hid FE
        have h12 : (1 : Int) < 2 := by omega
        have h02 : (0 : Int) < 2 := by omega
        replace hwe := Lib.hid hwe
        go_wp2_with fail
        refine (hm10.out _).mono ?_
        rintro e w5 ⟨rfl, rfl⟩
        go_wp2_with fail
        rw [hwe.out]
        go_region_held3 (fun w' => w'.cell? ⟨bs, 0, none⟩ = some (.pointer (some ⟨b0, 0, none⟩)) ∧ w'.cell? ⟨bx, 0, none⟩ = some (.int .i64 0) ∧ w'.cell? ⟨bx, 1, none⟩ = some (.int .i64 1) ∧ w'.cell? ⟨bx, 2, none⟩ = some (.int .i64 ka) ∧ w'.cell? ⟨bx, 3, none⟩ = some (.int .i64 kb) ∧ w'.cell? ⟨bx, 4, none⟩ = some (.int .i64 0) ∧ w'.cell? ⟨bx, 5, none⟩ = some (.string ByteArray.empty))
          (first | exact hS00.out | exact hS.out _ f3.out) (first | (go_at_call 18; refine hO.out.mono ?_; rintro r w7 ⟨⟨lv, rfl, hv⟩, p3, f3⟩; replace hv := Lib.hid hv; replace p3 := Lib.hid p3; replace f3 := Lib.hid f3))
        have hld := local_downs q.a ⟨0, 1, ka, kb, 0, ByteArray.empty⟩ HM.out.inva rfl (.inl rfl) ka0.1 ka0.2 kb0.1 kb0.2
        have hiv := (step_sim q.a ⟨0, 1, ka, kb, 0, ByteArray.empty⟩ HM.out.inva).2
        have hme : meetP q 0 ⟨0, 1, ka, kb, 0, ByteArray.empty⟩ = { q with a := (stepT q.a ⟨0, 1, ka, kb, 0, ByteArray.empty⟩).1, wb := q.wb ++ (stepT q.a ⟨0, 1, ka, kb, 0, ByteArray.empty⟩).2.1 } := by
          simp [meetP, hld]
        obtain ⟨R, hR⟩ : ∃ x, stepT q.a ⟨0, 1, ka, kb, 0, ByteArray.empty⟩ = x := ⟨_, rfl⟩
        rw [hR] at hv p3 hme hiv
        try rw [hR]
        obtain ⟨s', L, cd⟩ := R
        dsimp only at hv p3 hme hiv ⊢
        clear hld hR
        have F7 : Fr [b0] we w7 := ((Fr.refl _ _).drew).trans f3.out
        have hne := HE.out.ne
        have rj7 := HE.out.row1.fr F7 (fun x h => by have := HE.out.new1 x h; simp; omega)
        have ri7 := HE.out.row0.fr F7 (fun x h => by have := HE.out.new0 x h; simp; omega)
        obtain ⟨v', w8, bo', hrun, hR8, hb8, hF8⟩ := rj7.told lens.out.2 hv.out
        obtain ⟨oo, cc, rfl⟩ := hR8.len
        have way7 := F7.pt HE.out.way (by simp; omega)
        have notin : ∀ y, (∀ z, o1 = some z → z ≠ y) → y ∉ (o1).toList := fun y h hm => by
          rw [Option.mem_toList] at hm
          exact h y hm rfl
        have way8 := hF8.pt way7 (notin bw (fun z h => by have := HE.out.new1 z h; omega))
        have cw7 := way7.cell
        have cw8 := way8.cell
        have zw8 := way8.free
        have FS := (Fr.refl [bw] w8).setCell (p := ⟨bw, 1, none⟩) (by simp) (.slice oo (q.wb ++ L).length cc)
        have sides8 := hF8.pt (F7.pt HE.out.sides (by simp; omega)) (notin bs (fun z h => by have := HE.out.new1 z h; omega))
        have si8 := hF8.pt p3.out (notin b0 (fun z h => by have := HE.out.new1 z h; omega))
        have sj8 := hF8.pt (F7.pt HE.out.sb (by simp; omega)) (notin b1 (fun z h => by have := HE.out.new1 z h; omega))
        have ri8 := ri7.fr hF8 (fun y hy => notin y (fun z hz e => by subst e; exact HE.out.apart _ hy hz))
        have hbwo : ∀ z, bo' = some z → z ≠ bw ∧ base ≤ z ∧ z ≠ bs ∧ z ≠ b0 ∧ z ≠ b1 ∧ ∀ y, o0 = some y → y ≠ z := fun z hz => by
          have hsz : we.heap.size ≤ w7.heap.size := F7.size
          have hl1 := HE.out.way.lt; have hl2 := HE.out.sides.lt; have hl3 := HE.out.sa.lt; have hl4 := HE.out.sb.lt; have hge := HE.out.ge
          rcases hb8 with h | ⟨y, h, hy⟩
          · rw [h] at hz
            have := HE.out.new1 z hz
            exact ⟨by omega, by omega, by omega, by omega, by omega, fun y hy e => by subst e; exact HE.out.apart _ hy hz⟩
          · rw [h] at hz
            cases hz
            refine ⟨by omega, by omega, by omega, by omega, by omega, fun y hy2 e => ?_⟩
            subst e
            have h9 := HE.out.row0
            rw [hy2] at h9
            have := h9.lt
            omega
        have FIN : PRx base (w8.setCell ⟨bw, 1, none⟩ (.slice oo (q.wb ++ L).length cc)) bs bw b0 b1 (meetP q 0 ⟨0, 1, ka, kb, 0, ByteArray.empty⟩) ∧ Below base w0 (w8.setCell ⟨bw, 1, none⟩ (.slice oo (q.wb ++ L).length cc)) := by
          refine ⟨⟨v0, .slice oo (q.wb ++ L).length cc, o0, bo', ?_⟩, ?_⟩
          · rw [hme]
            exact { sides := FS.pt sides8 (by simp; omega), way := way8.set' rfl, row1 := hR8.fr FS (fun x h => by have := hbwo x h; simp; omega), row0 := ri8.fr FS (fun x h => by have := HE.out.new0 x h; simp; omega), apart := fun x hq0 hq1 => (hbwo x hq1).2.2.2.2.2 x hq0 rfl, new1 := fun x h => by have := hbwo x h; omega, new0 := HE.out.new0, sa := FS.pt si8 (by simp; omega), sb := FS.pt sj8 (by simp; omega), ge := HE.out.ge, ne := HE.out.ne, inva := hiv, invb := HE.out.invb }
          · have g1 : Fr (b0 :: bw :: (o1).toList) wr w7 := (FRE.out.mono (by simp)).trans (F7.mono (by simp))
            have g3 : Fr (b0 :: bw :: (o1).toList) wr w8 := g1.trans (hF8.mono (by intro x hx; simp [List.mem_cons, hx]))
            have g4 := g3.trans (FS.mono (by simp))
            have hge := HE.out.ge
            refine hB.out.trans (g4.below (by have := HM.out.sa.lt; omega) (fun x hx => ?_))
            simp only [List.mem_cons, Option.mem_toList] at hx
            rcases hx with rfl | rfl | hx
            · omega
            · omega
            · exact (HE.out.new1 _ hx).1
        simp only [List.length_append] at FIN
        replace FIN := Lib.hid FIN; replace hrun := Lib.hid hrun; replace hR8 := Lib.hid hR8; replace hb8 := Lib.hid hb8; replace hF8 := Lib.hid hF8; replace FS := Lib.hid FS; replace sides8 := Lib.hid sides8; replace si8 := Lib.hid si8; replace sj8 := Lib.hid sj8; replace ri8 := Lib.hid ri8; replace way8 := Lib.hid way8; replace way7 := Lib.hid way7; replace F7 := Lib.hid F7; replace rj7 := Lib.hid rj7; replace ri7 := Lib.hid ri7
        clear notin hbwo hwe hwq 
        go_wp2_with (first | (at_builtin; refine wpList_append_run _ rfl _ _ _ rfl rfl rfl hrun.out ?_))
        go_roundw
        case rel => exact ⟨i + 1, by omega, by go_num, by rw [hst.out, deed_0, hkA.out]; exact FIN.out.1, FIN.out.2⟩
        case measure => simp [intOf]; omega
      · -- d = 1
        go_wp2_with fail
        go_quiet (first | (go_at_call 38; exact Calls.quiet_of_same ((hm6.out _).mono fun _ _ h => ⟨h.1, h.2.symm⟩)) | (go_at_call 39; exact Calls.quiet_of_same ((hf6.out _).mono fun _ _ h => ⟨h.1, h.2.symm⟩)))
        go_wp2_with fail
        obtain ⟨wq, hwq⟩ : ∃ x, wr.drewN nq = x := ⟨_, rfl⟩
        have FQ : Fr [] wr wq := by rw [← hwq]; exact (Fr.refl [] wr).drewN nq
        rw [hwq]
        have HQ := HM.out.fr FQ
        refine (hm16.out wq).mono ?_
        rintro e w5 ⟨rfl, rfl⟩
        obtain ⟨we, hwe⟩ : ∃ x, wq.alloc (.cells #[.int .i64 0, .int .i64 1, .int .i64 ka, .int .i64 kb, .int .i64 0, .string { data := #[] }] TEv) = x := ⟨_, rfl⟩
        have PE : Pt (wq.alloc (.cells #[.int .i64 0, .int .i64 1, .int .i64 ka, .int .i64 kb, .int .i64 0, .string { data := #[] }] TEv)) wq.heap.size TEv [.int .i64 0, .int .i64 1, .int .i64 ka, .int .i64 kb, .int .i64 0, .string ByteArray.empty] := Pt.newA wq TEv #[.int .i64 0, .int .i64 1, .int .i64 ka, .int .i64 kb, .int .i64 0, .string { data := #[] }]
        rw [hwe] at PE
        obtain ⟨bx, hbx⟩ : ∃ x, wq.heap.size = x := ⟨_, rfl⟩
        rw [hbx] at PE
        have FE : Fr [] wq we := by rw [← hwe]; exact (Fr.refl [] wq).alloc _
        have HE := HQ.fr FE
        have FRE : Fr [] wr we := FQ.trans FE
        have hO := Lib.hid (ron_step b1 q.b ⟨0, 1, ka, kb, 0, ByteArray.empty⟩ we.drew HE.sb.drew HE.invb)
        dsimp only [Ev.val] at hO
        have hbxl : b1 < bx ∧ bs < bx ∧ bw < bx ∧ b0 < bx := by have h1 := HQ.sb.lt; have h2 := HQ.sides.lt; have h3 := HQ.way.lt; have h4 := HQ.sa.lt; omega
        have hS : ∀ w', Fr [b1] we.drew w' → (w'.cell? ⟨bs, 1, none⟩ = some (.pointer (some ⟨b1, 0, none⟩)) ∧ w'.cell? ⟨bx, 0, none⟩ = some (.int .i64 0) ∧ w'.cell? ⟨bx, 1, none⟩ = some (.int .i64 1) ∧ w'.cell? ⟨bx, 2, none⟩ = some (.int .i64 ka) ∧ w'.cell? ⟨bx, 3, none⟩ = some (.int .i64 kb) ∧ w'.cell? ⟨bx, 4, none⟩ = some (.int .i64 0) ∧ w'.cell? ⟨bx, 5, none⟩ = some (.string ByteArray.empty)) := fun w' hf => by
          have hne := HE.ne
          have c1 := (hf.pt HE.sides.drew (by simp; omega)).cell
          have c2 := (hf.pt PE.drew (by simp; omega)).cell
          refine ⟨c1 1, ?_, ?_, ?_, ?_, ?_, ?_⟩ <;> rw [c2] <;> rfl
        have hS00 := Lib.hid (hS _ (Fr.refl _ _))
        replace hS := Lib.hid hS; replace HQ := Lib.hid HQ; replace HE := Lib.hid HE; replace FRE := Lib.hid FRE; replace FQ := Lib.hid FQ; replace FE := Lib.hid FE
        have h12 : (1 : Int) < 2 := by omega
        have h02 : (0 : Int) < 2 := by omega
        replace hwe := Lib.hid hwe
        go_wp2_with fail
        refine (hm10.out _).mono ?_
        rintro e w5 ⟨rfl, rfl⟩
        go_wp2_with fail
        rw [hwe.out]
        go_region_held3 (fun w' => w'.cell? ⟨bs, 1, none⟩ = some (.pointer (some ⟨b1, 0, none⟩)) ∧ w'.cell? ⟨bx, 0, none⟩ = some (.int .i64 0) ∧ w'.cell? ⟨bx, 1, none⟩ = some (.int .i64 1) ∧ w'.cell? ⟨bx, 2, none⟩ = some (.int .i64 ka) ∧ w'.cell? ⟨bx, 3, none⟩ = some (.int .i64 kb) ∧ w'.cell? ⟨bx, 4, none⟩ = some (.int .i64 0) ∧ w'.cell? ⟨bx, 5, none⟩ = some (.string ByteArray.empty))
          (first | exact hS00.out | exact hS.out _ f3.out) (first | (go_at_call 18; refine hO.out.mono ?_; rintro r w7 ⟨⟨lv, rfl, hv⟩, p3, f3⟩; replace hv := Lib.hid hv; replace p3 := Lib.hid p3; replace f3 := Lib.hid f3))
        have hld := local_downs q.b ⟨0, 1, ka, kb, 0, ByteArray.empty⟩ HM.out.invb rfl (.inl rfl) ka0.1 ka0.2 kb0.1 kb0.2
        have hiv := (step_sim q.b ⟨0, 1, ka, kb, 0, ByteArray.empty⟩ HM.out.invb).2
        have hme : meetP q 1 ⟨0, 1, ka, kb, 0, ByteArray.empty⟩ = { q with b := (stepT q.b ⟨0, 1, ka, kb, 0, ByteArray.empty⟩).1, wa := q.wa ++ (stepT q.b ⟨0, 1, ka, kb, 0, ByteArray.empty⟩).2.1 } := by
          simp [meetP, hld]
        obtain ⟨R, hR⟩ : ∃ x, stepT q.b ⟨0, 1, ka, kb, 0, ByteArray.empty⟩ = x := ⟨_, rfl⟩
        rw [hR] at hv p3 hme hiv
        try rw [hR]
        obtain ⟨s', L, cd⟩ := R
        dsimp only at hv p3 hme hiv ⊢
        clear hld hR
        have F7 : Fr [b1] we w7 := ((Fr.refl _ _).drew).trans f3.out
        have hne := HE.out.ne
        have rj7 := HE.out.row0.fr F7 (fun x h => by have := HE.out.new0 x h; simp; omega)
        have ri7 := HE.out.row1.fr F7 (fun x h => by have := HE.out.new1 x h; simp; omega)
        obtain ⟨v', w8, bo', hrun, hR8, hb8, hF8⟩ := rj7.told lens.out.1 hv.out
        obtain ⟨oo, cc, rfl⟩ := hR8.len
        have way7 := F7.pt HE.out.way (by simp; omega)
        have notin : ∀ y, (∀ z, o0 = some z → z ≠ y) → y ∉ (o0).toList := fun y h hm => by
          rw [Option.mem_toList] at hm
          exact h y hm rfl
        have way8 := hF8.pt way7 (notin bw (fun z h => by have := HE.out.new0 z h; omega))
        have cw7 := way7.cell
        have cw8 := way8.cell
        have zw8 := way8.free
        have FS := (Fr.refl [bw] w8).setCell (p := ⟨bw, 0, none⟩) (by simp) (.slice oo (q.wa ++ L).length cc)
        have sides8 := hF8.pt (F7.pt HE.out.sides (by simp; omega)) (notin bs (fun z h => by have := HE.out.new0 z h; omega))
        have si8 := hF8.pt p3.out (notin b1 (fun z h => by have := HE.out.new0 z h; omega))
        have sj8 := hF8.pt (F7.pt HE.out.sa (by simp; omega)) (notin b0 (fun z h => by have := HE.out.new0 z h; omega))
        have ri8 := ri7.fr hF8 (fun y hy => notin y (fun z hz e => by subst e; exact HE.out.apart _ hz hy))
        have hbwo : ∀ z, bo' = some z → z ≠ bw ∧ base ≤ z ∧ z ≠ bs ∧ z ≠ b1 ∧ z ≠ b0 ∧ ∀ y, o1 = some y → y ≠ z := fun z hz => by
          have hsz : we.heap.size ≤ w7.heap.size := F7.size
          have hl1 := HE.out.way.lt; have hl2 := HE.out.sides.lt; have hl3 := HE.out.sb.lt; have hl4 := HE.out.sa.lt; have hge := HE.out.ge
          rcases hb8 with h | ⟨y, h, hy⟩
          · rw [h] at hz
            have := HE.out.new0 z hz
            exact ⟨by omega, by omega, by omega, by omega, by omega, fun y hy e => by subst e; exact HE.out.apart _ hz hy⟩
          · rw [h] at hz
            cases hz
            refine ⟨by omega, by omega, by omega, by omega, by omega, fun y hy2 e => ?_⟩
            subst e
            have h9 := HE.out.row1
            rw [hy2] at h9
            have := h9.lt
            omega
        have FIN : PRx base (w8.setCell ⟨bw, 0, none⟩ (.slice oo (q.wa ++ L).length cc)) bs bw b0 b1 (meetP q 1 ⟨0, 1, ka, kb, 0, ByteArray.empty⟩) ∧ Below base w0 (w8.setCell ⟨bw, 0, none⟩ (.slice oo (q.wa ++ L).length cc)) := by
          refine ⟨⟨.slice oo (q.wa ++ L).length cc, v1, bo', o1, ?_⟩, ?_⟩
          · rw [hme]
            exact { sides := FS.pt sides8 (by simp; omega), way := way8.set' rfl, row0 := hR8.fr FS (fun x h => by have := hbwo x h; simp; omega), row1 := ri8.fr FS (fun x h => by have := HE.out.new1 x h; simp; omega), apart := fun x hq0 hq1 => (hbwo x hq0).2.2.2.2.2 x hq1 rfl, new0 := fun x h => by have := hbwo x h; omega, new1 := HE.out.new1, sb := FS.pt si8 (by simp; omega), sa := FS.pt sj8 (by simp; omega), ge := HE.out.ge, ne := HE.out.ne, invb := hiv, inva := HE.out.inva }
          · have g1 : Fr (b1 :: bw :: (o0).toList) wr w7 := (FRE.out.mono (by simp)).trans (F7.mono (by simp))
            have g3 : Fr (b1 :: bw :: (o0).toList) wr w8 := g1.trans (hF8.mono (by intro x hx; simp [List.mem_cons, hx]))
            have g4 := g3.trans (FS.mono (by simp))
            have hge := HE.out.ge
            refine hB.out.trans (g4.below (by have := HM.out.sa.lt; omega) (fun x hx => ?_))
            simp only [List.mem_cons, Option.mem_toList] at hx
            rcases hx with rfl | rfl | hx
            · omega
            · omega
            · exact (HE.out.new0 _ hx).1
        simp only [List.length_append] at FIN
        replace FIN := Lib.hid FIN; replace hrun := Lib.hid hrun; replace hR8 := Lib.hid hR8; replace hb8 := Lib.hid hb8; replace hF8 := Lib.hid hF8; replace FS := Lib.hid FS; replace sides8 := Lib.hid sides8; replace si8 := Lib.hid si8; replace sj8 := Lib.hid sj8; replace ri8 := Lib.hid ri8; replace way8 := Lib.hid way8; replace way7 := Lib.hid way7; replace F7 := Lib.hid F7; replace rj7 := Lib.hid rj7; replace ri7 := Lib.hid ri7
        clear notin hbwo hwe hwq 
        go_wp2_with (first | (at_builtin; refine wpList_append_run _ rfl _ _ _ rfl rfl rfl hrun.out ?_))
        go_roundw
        case rel => exact ⟨i + 1, by omega, by go_num, by rw [hst.out, deed_1, hkA.out]; exact FIN.out.1, FIN.out.2⟩
        case measure => simp [intOf]; omega
      · -- d = 2
        go_wp2_with fail
        go_quiet (first | (go_at_call 38; exact Calls.quiet_of_same ((hm6.out _).mono fun _ _ h => ⟨h.1, h.2.symm⟩)) | (go_at_call 39; exact Calls.quiet_of_same ((hf6.out _).mono fun _ _ h => ⟨h.1, h.2.symm⟩)))
        go_wp2_with fail
        obtain ⟨wq, hwq⟩ : ∃ x, wr.drewN nq = x := ⟨_, rfl⟩
        have FQ : Fr [] wr wq := by rw [← hwq]; exact (Fr.refl [] wr).drewN nq
        rw [hwq]
        have HQ := HM.out.fr FQ
        refine (hm16.out wq).mono ?_
        rintro e w5 ⟨rfl, rfl⟩
        obtain ⟨we, hwe⟩ : ∃ x, wq.alloc (.cells #[.int .i64 0, .int .i64 2, .int .i64 ka, .int .i64 0, .int .i64 0, .string { data := #[] }] TEv) = x := ⟨_, rfl⟩
        have PE : Pt (wq.alloc (.cells #[.int .i64 0, .int .i64 2, .int .i64 ka, .int .i64 0, .int .i64 0, .string { data := #[] }] TEv)) wq.heap.size TEv [.int .i64 0, .int .i64 2, .int .i64 ka, .int .i64 0, .int .i64 0, .string ByteArray.empty] := Pt.newA wq TEv #[.int .i64 0, .int .i64 2, .int .i64 ka, .int .i64 0, .int .i64 0, .string { data := #[] }]
        rw [hwe] at PE
        obtain ⟨bx, hbx⟩ : ∃ x, wq.heap.size = x := ⟨_, rfl⟩
        rw [hbx] at PE
        have FE : Fr [] wq we := by rw [← hwe]; exact (Fr.refl [] wq).alloc _
        have HE := HQ.fr FE
        have FRE : Fr [] wr we := FQ.trans FE
        have hO := Lib.hid (ron_step b0 q.a ⟨0, 2, ka, 0, 0, ByteArray.empty⟩ we.drew HE.sa.drew HE.inva)
        dsimp only [Ev.val] at hO
        have hbxl : b0 < bx ∧ bs < bx ∧ bw < bx ∧ b1 < bx := by have h1 := HQ.sa.lt; have h2 := HQ.sides.lt; have h3 := HQ.way.lt; have h4 := HQ.sb.lt; omega
        have hS : ∀ w', Fr [b0] we.drew w' → (w'.cell? ⟨bs, 0, none⟩ = some (.pointer (some ⟨b0, 0, none⟩)) ∧ w'.cell? ⟨bx, 0, none⟩ = some (.int .i64 0) ∧ w'.cell? ⟨bx, 1, none⟩ = some (.int .i64 2) ∧ w'.cell? ⟨bx, 2, none⟩ = some (.int .i64 ka) ∧ w'.cell? ⟨bx, 3, none⟩ = some (.int .i64 0) ∧ w'.cell? ⟨bx, 4, none⟩ = some (.int .i64 0) ∧ w'.cell? ⟨bx, 5, none⟩ = some (.string ByteArray.empty)) := fun w' hf => by
          have hne := HE.ne
          have c1 := (hf.pt HE.sides.drew (by simp; omega)).cell
          have c2 := (hf.pt PE.drew (by simp; omega)).cell
          refine ⟨c1 0, ?_, ?_, ?_, ?_, ?_, ?_⟩ <;> rw [c2] <;> rfl
        have hS00 := Lib.hid (hS _ (Fr.refl _ _))
        replace hS := Lib.hid hS; replace HQ := Lib.hid HQ; replace HE := Lib.hid HE; replace FRE := Lib.hid FRE; replace FQ := Lib.hid FQ; replace FE := Lib.hid FE
        have h12 : (1 : Int) < 2 := by omega
        have h02 : (0 : Int) < 2 := by omega
        replace hwe := Lib.hid hwe
        go_wp2_with fail
        rw [hwe.out]
        go_region_held3 (fun w' => w'.cell? ⟨bs, 0, none⟩ = some (.pointer (some ⟨b0, 0, none⟩)) ∧ w'.cell? ⟨bx, 0, none⟩ = some (.int .i64 0) ∧ w'.cell? ⟨bx, 1, none⟩ = some (.int .i64 2) ∧ w'.cell? ⟨bx, 2, none⟩ = some (.int .i64 ka) ∧ w'.cell? ⟨bx, 3, none⟩ = some (.int .i64 0) ∧ w'.cell? ⟨bx, 4, none⟩ = some (.int .i64 0) ∧ w'.cell? ⟨bx, 5, none⟩ = some (.string ByteArray.empty))
          (first | exact hS00.out | exact hS.out _ f3.out) (first | (go_at_call 18; refine hO.out.mono ?_; rintro r w7 ⟨⟨lv, rfl, hv⟩, p3, f3⟩; replace hv := Lib.hid hv; replace p3 := Lib.hid p3; replace f3 := Lib.hid f3))
        have hld := local_downs q.a ⟨0, 2, ka, 0, 0, ByteArray.empty⟩ HM.out.inva rfl (.inr rfl) ka0.1 ka0.2 (Int.le_refl 0) (show (0 : Int) ≤ 9 by omega)
        have hiv := (step_sim q.a ⟨0, 2, ka, 0, 0, ByteArray.empty⟩ HM.out.inva).2
        have hme : meetP q 0 ⟨0, 2, ka, 0, 0, ByteArray.empty⟩ = { q with a := (stepT q.a ⟨0, 2, ka, 0, 0, ByteArray.empty⟩).1, wb := q.wb ++ (stepT q.a ⟨0, 2, ka, 0, 0, ByteArray.empty⟩).2.1 } := by
          simp [meetP, hld]
        obtain ⟨R, hR⟩ : ∃ x, stepT q.a ⟨0, 2, ka, 0, 0, ByteArray.empty⟩ = x := ⟨_, rfl⟩
        rw [hR] at hv p3 hme hiv
        try rw [hR]
        obtain ⟨s', L, cd⟩ := R
        dsimp only at hv p3 hme hiv ⊢
        clear hld hR
        have F7 : Fr [b0] we w7 := ((Fr.refl _ _).drew).trans f3.out
        have hne := HE.out.ne
        have rj7 := HE.out.row1.fr F7 (fun x h => by have := HE.out.new1 x h; simp; omega)
        have ri7 := HE.out.row0.fr F7 (fun x h => by have := HE.out.new0 x h; simp; omega)
        obtain ⟨v', w8, bo', hrun, hR8, hb8, hF8⟩ := rj7.told lens.out.2 hv.out
        obtain ⟨oo, cc, rfl⟩ := hR8.len
        have way7 := F7.pt HE.out.way (by simp; omega)
        have notin : ∀ y, (∀ z, o1 = some z → z ≠ y) → y ∉ (o1).toList := fun y h hm => by
          rw [Option.mem_toList] at hm
          exact h y hm rfl
        have way8 := hF8.pt way7 (notin bw (fun z h => by have := HE.out.new1 z h; omega))
        have cw7 := way7.cell
        have cw8 := way8.cell
        have zw8 := way8.free
        have FS := (Fr.refl [bw] w8).setCell (p := ⟨bw, 1, none⟩) (by simp) (.slice oo (q.wb ++ L).length cc)
        have sides8 := hF8.pt (F7.pt HE.out.sides (by simp; omega)) (notin bs (fun z h => by have := HE.out.new1 z h; omega))
        have si8 := hF8.pt p3.out (notin b0 (fun z h => by have := HE.out.new1 z h; omega))
        have sj8 := hF8.pt (F7.pt HE.out.sb (by simp; omega)) (notin b1 (fun z h => by have := HE.out.new1 z h; omega))
        have ri8 := ri7.fr hF8 (fun y hy => notin y (fun z hz e => by subst e; exact HE.out.apart _ hy hz))
        have hbwo : ∀ z, bo' = some z → z ≠ bw ∧ base ≤ z ∧ z ≠ bs ∧ z ≠ b0 ∧ z ≠ b1 ∧ ∀ y, o0 = some y → y ≠ z := fun z hz => by
          have hsz : we.heap.size ≤ w7.heap.size := F7.size
          have hl1 := HE.out.way.lt; have hl2 := HE.out.sides.lt; have hl3 := HE.out.sa.lt; have hl4 := HE.out.sb.lt; have hge := HE.out.ge
          rcases hb8 with h | ⟨y, h, hy⟩
          · rw [h] at hz
            have := HE.out.new1 z hz
            exact ⟨by omega, by omega, by omega, by omega, by omega, fun y hy e => by subst e; exact HE.out.apart _ hy hz⟩
          · rw [h] at hz
            cases hz
            refine ⟨by omega, by omega, by omega, by omega, by omega, fun y hy2 e => ?_⟩
            subst e
            have h9 := HE.out.row0
            rw [hy2] at h9
            have := h9.lt
            omega
        have FIN : PRx base (w8.setCell ⟨bw, 1, none⟩ (.slice oo (q.wb ++ L).length cc)) bs bw b0 b1 (meetP q 0 ⟨0, 2, ka, 0, 0, ByteArray.empty⟩) ∧ Below base w0 (w8.setCell ⟨bw, 1, none⟩ (.slice oo (q.wb ++ L).length cc)) := by
          refine ⟨⟨v0, .slice oo (q.wb ++ L).length cc, o0, bo', ?_⟩, ?_⟩
          · rw [hme]
            exact { sides := FS.pt sides8 (by simp; omega), way := way8.set' rfl, row1 := hR8.fr FS (fun x h => by have := hbwo x h; simp; omega), row0 := ri8.fr FS (fun x h => by have := HE.out.new0 x h; simp; omega), apart := fun x hq0 hq1 => (hbwo x hq1).2.2.2.2.2 x hq0 rfl, new1 := fun x h => by have := hbwo x h; omega, new0 := HE.out.new0, sa := FS.pt si8 (by simp; omega), sb := FS.pt sj8 (by simp; omega), ge := HE.out.ge, ne := HE.out.ne, inva := hiv, invb := HE.out.invb }
          · have g1 : Fr (b0 :: bw :: (o1).toList) wr w7 := (FRE.out.mono (by simp)).trans (F7.mono (by simp))
            have g3 : Fr (b0 :: bw :: (o1).toList) wr w8 := g1.trans (hF8.mono (by intro x hx; simp [List.mem_cons, hx]))
            have g4 := g3.trans (FS.mono (by simp))
            have hge := HE.out.ge
            refine hB.out.trans (g4.below (by have := HM.out.sa.lt; omega) (fun x hx => ?_))
            simp only [List.mem_cons, Option.mem_toList] at hx
            rcases hx with rfl | rfl | hx
            · omega
            · omega
            · exact (HE.out.new1 _ hx).1
        simp only [List.length_append] at FIN
        replace FIN := Lib.hid FIN; replace hrun := Lib.hid hrun; replace hR8 := Lib.hid hR8; replace hb8 := Lib.hid hb8; replace hF8 := Lib.hid hF8; replace FS := Lib.hid FS; replace sides8 := Lib.hid sides8; replace si8 := Lib.hid si8; replace sj8 := Lib.hid sj8; replace ri8 := Lib.hid ri8; replace way8 := Lib.hid way8; replace way7 := Lib.hid way7; replace F7 := Lib.hid F7; replace rj7 := Lib.hid rj7; replace ri7 := Lib.hid ri7
        clear notin hbwo hwe hwq 
        go_wp2_with (first | (at_builtin; refine wpList_append_run _ rfl _ _ _ rfl rfl rfl hrun.out ?_))
        go_roundw
        case rel => exact ⟨i + 1, by omega, by go_num, by rw [hst.out, deed_2, hkG.out]; exact FIN.out.1, FIN.out.2⟩
        case measure => simp [intOf]; omega
      · -- d = 3
        go_wp2_with fail
        go_quiet (first | (go_at_call 38; exact Calls.quiet_of_same ((hm6.out _).mono fun _ _ h => ⟨h.1, h.2.symm⟩)) | (go_at_call 39; exact Calls.quiet_of_same ((hf6.out _).mono fun _ _ h => ⟨h.1, h.2.symm⟩)))
        go_wp2_with fail
        obtain ⟨wq, hwq⟩ : ∃ x, wr.drewN nq = x := ⟨_, rfl⟩
        have FQ : Fr [] wr wq := by rw [← hwq]; exact (Fr.refl [] wr).drewN nq
        rw [hwq]
        have HQ := HM.out.fr FQ
        refine (hm16.out wq).mono ?_
        rintro e w5 ⟨rfl, rfl⟩
        obtain ⟨we, hwe⟩ : ∃ x, wq.alloc (.cells #[.int .i64 0, .int .i64 2, .int .i64 ka, .int .i64 0, .int .i64 0, .string { data := #[] }] TEv) = x := ⟨_, rfl⟩
        have PE : Pt (wq.alloc (.cells #[.int .i64 0, .int .i64 2, .int .i64 ka, .int .i64 0, .int .i64 0, .string { data := #[] }] TEv)) wq.heap.size TEv [.int .i64 0, .int .i64 2, .int .i64 ka, .int .i64 0, .int .i64 0, .string ByteArray.empty] := Pt.newA wq TEv #[.int .i64 0, .int .i64 2, .int .i64 ka, .int .i64 0, .int .i64 0, .string { data := #[] }]
        rw [hwe] at PE
        obtain ⟨bx, hbx⟩ : ∃ x, wq.heap.size = x := ⟨_, rfl⟩
        rw [hbx] at PE
        have FE : Fr [] wq we := by rw [← hwe]; exact (Fr.refl [] wq).alloc _
        have HE := HQ.fr FE
        have FRE : Fr [] wr we := FQ.trans FE
        have hO := Lib.hid (ron_step b1 q.b ⟨0, 2, ka, 0, 0, ByteArray.empty⟩ we.drew HE.sb.drew HE.invb)
        dsimp only [Ev.val] at hO
        have hbxl : b1 < bx ∧ bs < bx ∧ bw < bx ∧ b0 < bx := by have h1 := HQ.sb.lt; have h2 := HQ.sides.lt; have h3 := HQ.way.lt; have h4 := HQ.sa.lt; omega
        have hS : ∀ w', Fr [b1] we.drew w' → (w'.cell? ⟨bs, 1, none⟩ = some (.pointer (some ⟨b1, 0, none⟩)) ∧ w'.cell? ⟨bx, 0, none⟩ = some (.int .i64 0) ∧ w'.cell? ⟨bx, 1, none⟩ = some (.int .i64 2) ∧ w'.cell? ⟨bx, 2, none⟩ = some (.int .i64 ka) ∧ w'.cell? ⟨bx, 3, none⟩ = some (.int .i64 0) ∧ w'.cell? ⟨bx, 4, none⟩ = some (.int .i64 0) ∧ w'.cell? ⟨bx, 5, none⟩ = some (.string ByteArray.empty)) := fun w' hf => by
          have hne := HE.ne
          have c1 := (hf.pt HE.sides.drew (by simp; omega)).cell
          have c2 := (hf.pt PE.drew (by simp; omega)).cell
          refine ⟨c1 1, ?_, ?_, ?_, ?_, ?_, ?_⟩ <;> rw [c2] <;> rfl
        have hS00 := Lib.hid (hS _ (Fr.refl _ _))
        replace hS := Lib.hid hS; replace HQ := Lib.hid HQ; replace HE := Lib.hid HE; replace FRE := Lib.hid FRE; replace FQ := Lib.hid FQ; replace FE := Lib.hid FE
        have h12 : (1 : Int) < 2 := by omega
        have h02 : (0 : Int) < 2 := by omega
        replace hwe := Lib.hid hwe
        go_wp2_with fail
        rw [hwe.out]
        go_region_held3 (fun w' => w'.cell? ⟨bs, 1, none⟩ = some (.pointer (some ⟨b1, 0, none⟩)) ∧ w'.cell? ⟨bx, 0, none⟩ = some (.int .i64 0) ∧ w'.cell? ⟨bx, 1, none⟩ = some (.int .i64 2) ∧ w'.cell? ⟨bx, 2, none⟩ = some (.int .i64 ka) ∧ w'.cell? ⟨bx, 3, none⟩ = some (.int .i64 0) ∧ w'.cell? ⟨bx, 4, none⟩ = some (.int .i64 0) ∧ w'.cell? ⟨bx, 5, none⟩ = some (.string ByteArray.empty))
          (first | exact hS00.out | exact hS.out _ f3.out) (first | (go_at_call 18; refine hO.out.mono ?_; rintro r w7 ⟨⟨lv, rfl, hv⟩, p3, f3⟩; replace hv := Lib.hid hv; replace p3 := Lib.hid p3; replace f3 := Lib.hid f3))
        have hld := local_downs q.b ⟨0, 2, ka, 0, 0, ByteArray.empty⟩ HM.out.invb rfl (.inr rfl) ka0.1 ka0.2 (Int.le_refl 0) (show (0 : Int) ≤ 9 by omega)
        have hiv := (step_sim q.b ⟨0, 2, ka, 0, 0, ByteArray.empty⟩ HM.out.invb).2
        have hme : meetP q 1 ⟨0, 2, ka, 0, 0, ByteArray.empty⟩ = { q with b := (stepT q.b ⟨0, 2, ka, 0, 0, ByteArray.empty⟩).1, wa := q.wa ++ (stepT q.b ⟨0, 2, ka, 0, 0, ByteArray.empty⟩).2.1 } := by
          simp [meetP, hld]
        obtain ⟨R, hR⟩ : ∃ x, stepT q.b ⟨0, 2, ka, 0, 0, ByteArray.empty⟩ = x := ⟨_, rfl⟩
        rw [hR] at hv p3 hme hiv
        try rw [hR]
        obtain ⟨s', L, cd⟩ := R
        dsimp only at hv p3 hme hiv ⊢
        clear hld hR
        have F7 : Fr [b1] we w7 := ((Fr.refl _ _).drew).trans f3.out
        have hne := HE.out.ne
        have rj7 := HE.out.row0.fr F7 (fun x h => by have := HE.out.new0 x h; simp; omega)
        have ri7 := HE.out.row1.fr F7 (fun x h => by have := HE.out.new1 x h; simp; omega)
        obtain ⟨v', w8, bo', hrun, hR8, hb8, hF8⟩ := rj7.told lens.out.1 hv.out
        obtain ⟨oo, cc, rfl⟩ := hR8.len
        have way7 := F7.pt HE.out.way (by simp; omega)
        have notin : ∀ y, (∀ z, o0 = some z → z ≠ y) → y ∉ (o0).toList := fun y h hm => by
          rw [Option.mem_toList] at hm
          exact h y hm rfl
        have way8 := hF8.pt way7 (notin bw (fun z h => by have := HE.out.new0 z h; omega))
        have cw7 := way7.cell
        have cw8 := way8.cell
        have zw8 := way8.free
        have FS := (Fr.refl [bw] w8).setCell (p := ⟨bw, 0, none⟩) (by simp) (.slice oo (q.wa ++ L).length cc)
        have sides8 := hF8.pt (F7.pt HE.out.sides (by simp; omega)) (notin bs (fun z h => by have := HE.out.new0 z h; omega))
        have si8 := hF8.pt p3.out (notin b1 (fun z h => by have := HE.out.new0 z h; omega))
        have sj8 := hF8.pt (F7.pt HE.out.sa (by simp; omega)) (notin b0 (fun z h => by have := HE.out.new0 z h; omega))
        have ri8 := ri7.fr hF8 (fun y hy => notin y (fun z hz e => by subst e; exact HE.out.apart _ hz hy))
        have hbwo : ∀ z, bo' = some z → z ≠ bw ∧ base ≤ z ∧ z ≠ bs ∧ z ≠ b1 ∧ z ≠ b0 ∧ ∀ y, o1 = some y → y ≠ z := fun z hz => by
          have hsz : we.heap.size ≤ w7.heap.size := F7.size
          have hl1 := HE.out.way.lt; have hl2 := HE.out.sides.lt; have hl3 := HE.out.sb.lt; have hl4 := HE.out.sa.lt; have hge := HE.out.ge
          rcases hb8 with h | ⟨y, h, hy⟩
          · rw [h] at hz
            have := HE.out.new0 z hz
            exact ⟨by omega, by omega, by omega, by omega, by omega, fun y hy e => by subst e; exact HE.out.apart _ hz hy⟩
          · rw [h] at hz
            cases hz
            refine ⟨by omega, by omega, by omega, by omega, by omega, fun y hy2 e => ?_⟩
            subst e
            have h9 := HE.out.row1
            rw [hy2] at h9
            have := h9.lt
            omega
        have FIN : PRx base (w8.setCell ⟨bw, 0, none⟩ (.slice oo (q.wa ++ L).length cc)) bs bw b0 b1 (meetP q 1 ⟨0, 2, ka, 0, 0, ByteArray.empty⟩) ∧ Below base w0 (w8.setCell ⟨bw, 0, none⟩ (.slice oo (q.wa ++ L).length cc)) := by
          refine ⟨⟨.slice oo (q.wa ++ L).length cc, v1, bo', o1, ?_⟩, ?_⟩
          · rw [hme]
            exact { sides := FS.pt sides8 (by simp; omega), way := way8.set' rfl, row0 := hR8.fr FS (fun x h => by have := hbwo x h; simp; omega), row1 := ri8.fr FS (fun x h => by have := HE.out.new1 x h; simp; omega), apart := fun x hq0 hq1 => (hbwo x hq0).2.2.2.2.2 x hq1 rfl, new0 := fun x h => by have := hbwo x h; omega, new1 := HE.out.new1, sb := FS.pt si8 (by simp; omega), sa := FS.pt sj8 (by simp; omega), ge := HE.out.ge, ne := HE.out.ne, invb := hiv, inva := HE.out.inva }
          · have g1 : Fr (b1 :: bw :: (o0).toList) wr w7 := (FRE.out.mono (by simp)).trans (F7.mono (by simp))
            have g3 : Fr (b1 :: bw :: (o0).toList) wr w8 := g1.trans (hF8.mono (by intro x hx; simp [List.mem_cons, hx]))
            have g4 := g3.trans (FS.mono (by simp))
            have hge := HE.out.ge
            refine hB.out.trans (g4.below (by have := HM.out.sa.lt; omega) (fun x hx => ?_))
            simp only [List.mem_cons, Option.mem_toList] at hx
            rcases hx with rfl | rfl | hx
            · omega
            · omega
            · exact (HE.out.new0 _ hx).1
        simp only [List.length_append] at FIN
        replace FIN := Lib.hid FIN; replace hrun := Lib.hid hrun; replace hR8 := Lib.hid hR8; replace hb8 := Lib.hid hb8; replace hF8 := Lib.hid hF8; replace FS := Lib.hid FS; replace sides8 := Lib.hid sides8; replace si8 := Lib.hid si8; replace sj8 := Lib.hid sj8; replace ri8 := Lib.hid ri8; replace way8 := Lib.hid way8; replace way7 := Lib.hid way7; replace F7 := Lib.hid F7; replace rj7 := Lib.hid rj7; replace ri7 := Lib.hid ri7
        clear notin hbwo hwe hwq 
        go_wp2_with (first | (at_builtin; refine wpList_append_run _ rfl _ _ _ rfl rfl rfl hrun.out ?_))
        go_roundw
        case rel => exact ⟨i + 1, by omega, by go_num, by rw [hst.out, deed_3, hkG.out]; exact FIN.out.1, FIN.out.2⟩
        case measure => simp [intOf]; omega
      · -- d = 4
        go_wp2_with fail
        go_quiet (first | (go_at_call 38; exact Calls.quiet_of_same ((hm6.out _).mono fun _ _ h => ⟨h.1, h.2.symm⟩)) | (go_at_call 39; exact Calls.quiet_of_same ((hf6.out _).mono fun _ _ h => ⟨h.1, h.2.symm⟩)))
        cases hwq : q.wa with
        | nil =>
          have hp : popP q 0 = q := by simp [popP, hwq]
          obtain ⟨oz, cz, hvz⟩ := HM.out.row0.len
          rw [hwq] at hvz
          simp only [List.length_nil] at hvz
          subst hvz
          have FQ : Fr [] wr (wr.drewN nq) := (Fr.refl [] wr).drewN nq
          have FIN : PRx base (wr.drewN nq) bs bw b0 b1 q ∧ Below base w0 (wr.drewN nq) := ⟨⟨_, _, _, _, HM.out.fr FQ⟩, hB.out.trans (FQ.below (by have := HM.out.sa.lt; have := HM.out.ge; omega) (by simp))⟩
          have hwc := (HM.out.fr FQ).way.cell
          have h02 : (1 : Int) < 2 := by omega
          replace FIN := Lib.hid FIN; replace FQ := Lib.hid FQ
          go_wp2
          go_roundw
          case rel => exact ⟨i + 1, by omega, by go_num, by rw [hst.out, deed_4, hp]; exact FIN.out.1, FIN.out.2⟩
          case measure => simp [intOf]; omega
        | cons ev r =>
          have hfin := hJi.out.fa ev (by rw [hwq]; simp)
          have hiv := (step_sim q.a ev HM.out.inva).2
          have hp : popP q 0 = { q with a := (stepT q.a ev).1, wa := r } := by
            have := (step_down q.a ev HM.out.inva hfin).1
            simp [popP, hwq, meetP, this]
          obtain ⟨wq, hwqe⟩ : ∃ x, wr.drewN nq = x := ⟨_, rfl⟩
          have FQ : Fr [] wr wq := by rw [← hwqe]; exact (Fr.refl [] wr).drewN nq
          rw [hwqe]
          have HQ := HM.out.fr FQ
          have lr : r.length < 1000000 := by have := lens.out; rw [hwq] at this; simp at this; omega
          have hrow := HQ.row0
          rw [hwq] at hrow
          have hrow2 := hrow
          rcases hrow with ⟨_, h, _⟩ | ⟨bq, oq, cap2, rfl, hvq, h3, h4, h5, h6, h7⟩
          · simp at h
          subst hvq
          clear hwqe
          obtain ⟨wz, hwz⟩ : ∃ x, wq.alloc (.cells ev.cells.toArray TEv) = x := ⟨_, rfl⟩
          have PZ := Pt.newA wq TEv ev.cells.toArray
          rw [hwz] at PZ
          have FZ : Fr [] wq wz := by rw [← hwz]; exact (Fr.refl [] wq).alloc _
          obtain ⟨bz, hbz⟩ : ∃ x, wq.heap.size = x := ⟨_, rfl⟩
          rw [hbz] at PZ
          have cq : ∀ j, j < 6 → wq.cell? ⟨bq, oq + j, none⟩ = ev.cells[j]? := fun j hj => by
            rw [h7 j (by simp; omega)]
            show (ev.cells ++ evCells r)[j]? = _
            rw [List.getElem?_append_left (show j < 6 from hj)]
          have HZ := HQ.fr FZ
          have hrz := hrow2.fr FZ (by simp)
          obtain ⟨v', w8, bo', hrun, hR8, hb8, hF8⟩ := Row.rest (w := wz) hrz lr
          obtain ⟨oo, cc, rfl⟩ := hR8.len
          have H8 := HZ.fr hF8
          have FS : Fr [bw] w8 (w8.setCell ⟨bw, 0, none⟩ (.slice oo r.length cc)) := (Fr.refl _ _).setCell (by simp) _
          have hne := HQ.ne
          have PZ8 := hF8.pt PZ (by simp)
          have hbl : b0 < bz ∧ bs < bz ∧ bw < bz ∧ b1 < bz := by have h1 := HQ.sa.lt; have h2 := HQ.sides.lt; have h3 := HQ.way.lt; have h4 := HQ.sb.lt; omega
          have hbzl := PZ.lt
          have HS8 : PR base (w8.setCell ⟨bw, 0, none⟩ (.slice oo r.length cc)) bs bw b0 b1 { q with wa := r } (.slice oo r.length cc) v1 bo' o1 :=
            { sides := FS.pt H8.sides (by simp; omega), way := H8.way.set' rfl, row0 := hR8.fr FS (fun x h => by have := hb8 x h; simp; omega), row1 := H8.row1.fr FS (fun x h => by have := HQ.new1 x h; simp; omega), apart := fun x hq0 hq1 => by have h9 := hb8 x hq0; have h8 := HQ.row1; rw [hq1] at h8; have := h8.lt; omega, new0 := fun x h => by have := hb8 x h; have := HQ.ge; omega, new1 := HQ.new1, sa := FS.pt H8.sa (by simp; omega), sb := FS.pt H8.sb (by simp; omega), ge := HQ.ge, ne := HQ.ne, inva := HQ.inva, invb := HQ.invb }
          have PZS := FS.pt PZ8 (by simp; omega)
          have FALL : Fr [bw] wr (w8.setCell ⟨bw, 0, none⟩ (.slice oo r.length cc)) := (((FQ.trans (FZ.trans hF8))).mono (by simp)).trans FS
          have cw0 := HQ.way.cell
          have cwz := HZ.way.cell
          have cwz2 := (HZ.fr ((Fr.refl [] wz).alloc (.cells #[] TEv))).way.cell
          have cw8 := H8.way.cell
          have zw8 := H8.way.free
          have hO := Lib.hid (ron_step b0 q.a ev (w8.setCell ⟨bw, 0, none⟩ (.slice oo r.length cc)).drew HS8.sa.drew HQ.inva)
          have hS : ∀ w', Fr [b0] (w8.setCell ⟨bw, 0, none⟩ (.slice oo r.length cc)).drew w' → (w'.cell? ⟨bs, 0, none⟩ = some (.pointer (some ⟨b0, 0, none⟩)) ∧ w'.cell? ⟨bz, 0, none⟩ = some (.int .i64 ev.way) ∧ w'.cell? ⟨bz, 1, none⟩ = some (.int .i64 ev.kind) ∧ w'.cell? ⟨bz, 2, none⟩ = some (.int .i64 ev.a) ∧ w'.cell? ⟨bz, 3, none⟩ = some (.int .i64 ev.b) ∧ w'.cell? ⟨bz, 4, none⟩ = some (.int .i64 ev.c) ∧ w'.cell? ⟨bz, 5, none⟩ = some (.string ev.data)) := fun w' hf => by
            have c1 := (hf.pt HS8.sides.drew (by simp; omega)).cell
            have c2 := (hf.pt PZS.drew (by simp; omega)).cell
            refine ⟨c1 0, ?_, ?_, ?_, ?_, ?_, ?_⟩ <;> rw [c2] <;> rfl
          have hS00 := hS _ (Fr.refl _ _)
          have FIN : ∀ w9, Pt w9 b0 RSide (toRS (stepT q.a ev).1).cells → Fr [b0] (w8.setCell ⟨bw, 0, none⟩ (.slice oo r.length cc)).drew w9 → PRx base w9 bs bw b0 b1 (popP q 0) ∧ Below base w0 w9 := fun w9 p9 f9 => by
            have F9 : Fr [b0] (w8.setCell ⟨bw, 0, none⟩ (.slice oo r.length cc)) w9 := ((Fr.refl _ _).drew).trans f9
            refine ⟨⟨.slice oo r.length cc, v1, bo', o1, ?_⟩, ?_⟩
            · rw [hp]
              exact { sides := F9.pt HS8.sides (by simp; omega), way := F9.pt HS8.way (by simp; omega), row0 := HS8.row0.fr F9 (fun x h => by have := HS8.new0 x h; simp; omega), row1 := HS8.row1.fr F9 (fun x h => by have := HS8.new1 x h; simp; omega), apart := HS8.apart, new0 := HS8.new0, new1 := HS8.new1, sa := p9, sb := F9.pt HS8.sb (by simp; omega), ge := HQ.ge, ne := HQ.ne, inva := hiv, invb := HQ.invb }
            · have g : Fr [bw, b0] wr w9 := (FALL.mono (by simp)).trans (F9.mono (by simp))
              have hge := HQ.ge
              exact hB.out.trans (g.below (by have := HM.out.sa.lt; omega) (by simp; omega))
          have h0 : (0 : Int) < ((r.length + 1 : Nat) : Int) := by omega
          have h12 : (1 : Int) < 2 := by omega
          have h02 : (0 : Int) < 2 := by omega
          obtain ⟨xw, xk, xa, xb, xc, xd⟩ := ev
          dsimp only [Ev.val] at hO hS hS00
          have c0 := cq 0 (by omega); have c1 := cq 1 (by omega); have c2 := cq 2 (by omega); have c3 := cq 3 (by omega); have c4 := cq 4 (by omega); have c5 := cq 5 (by omega)
          simp only [Ev.cells, Nat.add_zero, List.getElem?_cons_zero, List.getElem?_cons_succ] at c0 c1 c2 c3 c4 c5 hwz
          clear cq hwq h5 hiv hfin hp hbl HZ PZ8 hb8 hR8 hrz hrow2
          simp only [List.length_cons] at h3
          replace hS := Lib.hid hS; replace hS00 := Lib.hid hS00; replace FIN := Lib.hid FIN; replace HQ := Lib.hid HQ; replace H8 := Lib.hid H8; replace HS8 := Lib.hid HS8; replace FALL := Lib.hid FALL; replace h6 := Lib.hid h6; replace h7 := Lib.hid h7; replace FQ := Lib.hid FQ; replace FZ := Lib.hid FZ; replace hF8 := Lib.hid hF8; replace FS := Lib.hid FS; replace PZ := Lib.hid PZ; replace PZS := Lib.hid PZS
          by_cases hc1 : cap2 = 1
          · rw [if_pos hc1] at hrun
            subst hc1
            obtain rfl : r = [] := by cases r with | nil => rfl | cons _ _ => simp at h3
            simp only [List.length_nil] at hrun
            replace hrun := Lib.hid hrun
            go_wp2_with (first | (at_builtin; refine wpList_append_run _ rfl _ _ _ rfl rfl rfl hrun.out ?_))
            go_region_held3 (fun w' => w'.cell? ⟨bs, 0, none⟩ = some (.pointer (some ⟨b0, 0, none⟩)) ∧ w'.cell? ⟨bz, 0, none⟩ = some (.int .i64 xw) ∧ w'.cell? ⟨bz, 1, none⟩ = some (.int .i64 xk) ∧ w'.cell? ⟨bz, 2, none⟩ = some (.int .i64 xa) ∧ w'.cell? ⟨bz, 3, none⟩ = some (.int .i64 xb) ∧ w'.cell? ⟨bz, 4, none⟩ = some (.int .i64 xc) ∧ w'.cell? ⟨bz, 5, none⟩ = some (.string xd))
              (first | exact hS00.out | exact hS.out _ f3.out) (first | (go_at_call 18; refine hO.out.mono ?_; rintro rr w9 ⟨⟨lv, rfl, hv⟩, p3, f3⟩; replace hv := Lib.hid hv; replace p3 := Lib.hid p3; replace f3 := Lib.hid f3))
            go_wp2
            go_roundw
            case rel => exact ⟨i + 1, by omega, by go_num, by rw [hst.out, deed_4]; exact (FIN.out _ p3.out f3.out).1, (FIN.out _ p3.out f3.out).2⟩
            case measure => simp [intOf]; omega
          · rw [if_neg hc1] at hrun
            have hc2 : (cap2 - 1 = 0) = False := by simp only [eq_iff_iff, iff_false]; omega
            have hc3 : ¬ cap2 ≤ 1 := by omega
            replace hrun := Lib.hid hrun
            go_wp2_with (first | (at_builtin; refine wpList_append_run _ rfl _ _ _ rfl rfl rfl hrun.out ?_))
            go_region_held3 (fun w' => w'.cell? ⟨bs, 0, none⟩ = some (.pointer (some ⟨b0, 0, none⟩)) ∧ w'.cell? ⟨bz, 0, none⟩ = some (.int .i64 xw) ∧ w'.cell? ⟨bz, 1, none⟩ = some (.int .i64 xk) ∧ w'.cell? ⟨bz, 2, none⟩ = some (.int .i64 xa) ∧ w'.cell? ⟨bz, 3, none⟩ = some (.int .i64 xb) ∧ w'.cell? ⟨bz, 4, none⟩ = some (.int .i64 xc) ∧ w'.cell? ⟨bz, 5, none⟩ = some (.string xd))
              (first | exact hS00.out | exact hS.out _ f3.out) (first | (go_at_call 18; refine hO.out.mono ?_; rintro rr w9 ⟨⟨lv, rfl, hv⟩, p3, f3⟩; replace hv := Lib.hid hv; replace p3 := Lib.hid p3; replace f3 := Lib.hid f3))
            go_wp2
            go_roundw
            case rel => exact ⟨i + 1, by omega, by go_num, by rw [hst.out, deed_4]; exact (FIN.out _ p3.out f3.out).1, (FIN.out _ p3.out f3.out).2⟩
            case measure => simp [intOf]; omega
      · -- d = 5
        go_wp2_with fail
        go_quiet (first | (go_at_call 38; exact Calls.quiet_of_same ((hm6.out _).mono fun _ _ h => ⟨h.1, h.2.symm⟩)) | (go_at_call 39; exact Calls.quiet_of_same ((hf6.out _).mono fun _ _ h => ⟨h.1, h.2.symm⟩)))
        cases hwq : q.wb with
        | nil =>
          have hp : popP q 1 = q := by simp [popP, hwq]
          obtain ⟨oz, cz, hvz⟩ := HM.out.row1.len
          rw [hwq] at hvz
          simp only [List.length_nil] at hvz
          subst hvz
          have FQ : Fr [] wr (wr.drewN nq) := (Fr.refl [] wr).drewN nq
          have FIN : PRx base (wr.drewN nq) bs bw b0 b1 q ∧ Below base w0 (wr.drewN nq) := ⟨⟨_, _, _, _, HM.out.fr FQ⟩, hB.out.trans (FQ.below (by have := HM.out.sa.lt; have := HM.out.ge; omega) (by simp))⟩
          have hwc := (HM.out.fr FQ).way.cell
          have h02 : (1 : Int) < 2 := by omega
          replace FIN := Lib.hid FIN; replace FQ := Lib.hid FQ
          go_wp2
          go_roundw
          case rel => exact ⟨i + 1, by omega, by go_num, by rw [hst.out, deed_5, hp]; exact FIN.out.1, FIN.out.2⟩
          case measure => simp [intOf]; omega
        | cons ev r =>
          have hfin := hJi.out.fb ev (by rw [hwq]; simp)
          have hiv := (step_sim q.b ev HM.out.invb).2
          have hp : popP q 1 = { q with b := (stepT q.b ev).1, wb := r } := by
            have := (step_down q.b ev HM.out.invb hfin).1
            simp [popP, hwq, meetP, this]
          obtain ⟨wq, hwqe⟩ : ∃ x, wr.drewN nq = x := ⟨_, rfl⟩
          have FQ : Fr [] wr wq := by rw [← hwqe]; exact (Fr.refl [] wr).drewN nq
          rw [hwqe]
          have HQ := HM.out.fr FQ
          have lr : r.length < 1000000 := by have := lens.out; rw [hwq] at this; simp at this; omega
          have hrow := HQ.row1
          rw [hwq] at hrow
          have hrow2 := hrow
          rcases hrow with ⟨_, h, _⟩ | ⟨bq, oq, cap2, rfl, hvq, h3, h4, h5, h6, h7⟩
          · simp at h
          subst hvq
          clear hwqe
          obtain ⟨wz, hwz⟩ : ∃ x, wq.alloc (.cells ev.cells.toArray TEv) = x := ⟨_, rfl⟩
          have PZ := Pt.newA wq TEv ev.cells.toArray
          rw [hwz] at PZ
          have FZ : Fr [] wq wz := by rw [← hwz]; exact (Fr.refl [] wq).alloc _
          obtain ⟨bz, hbz⟩ : ∃ x, wq.heap.size = x := ⟨_, rfl⟩
          rw [hbz] at PZ
          have cq : ∀ j, j < 6 → wq.cell? ⟨bq, oq + j, none⟩ = ev.cells[j]? := fun j hj => by
            rw [h7 j (by simp; omega)]
            show (ev.cells ++ evCells r)[j]? = _
            rw [List.getElem?_append_left (show j < 6 from hj)]
          have HZ := HQ.fr FZ
          have hrz := hrow2.fr FZ (by simp)
          obtain ⟨v', w8, bo', hrun, hR8, hb8, hF8⟩ := Row.rest (w := wz) hrz lr
          obtain ⟨oo, cc, rfl⟩ := hR8.len
          have H8 := HZ.fr hF8
          have FS : Fr [bw] w8 (w8.setCell ⟨bw, 1, none⟩ (.slice oo r.length cc)) := (Fr.refl _ _).setCell (by simp) _
          have hne := HQ.ne
          have PZ8 := hF8.pt PZ (by simp)
          have hbl : b1 < bz ∧ bs < bz ∧ bw < bz ∧ b0 < bz := by have h1 := HQ.sb.lt; have h2 := HQ.sides.lt; have h3 := HQ.way.lt; have h4 := HQ.sa.lt; omega
          have hbzl := PZ.lt
          have HS8 : PR base (w8.setCell ⟨bw, 1, none⟩ (.slice oo r.length cc)) bs bw b0 b1 { q with wb := r } v0 (.slice oo r.length cc) o0 bo' :=
            { sides := FS.pt H8.sides (by simp; omega), way := H8.way.set' rfl, row1 := hR8.fr FS (fun x h => by have := hb8 x h; simp; omega), row0 := H8.row0.fr FS (fun x h => by have := HQ.new0 x h; simp; omega), apart := fun x hq0 hq1 => by have h9 := hb8 x hq1; have h8 := HQ.row0; rw [hq0] at h8; have := h8.lt; omega, new1 := fun x h => by have := hb8 x h; have := HQ.ge; omega, new0 := HQ.new0, sa := FS.pt H8.sa (by simp; omega), sb := FS.pt H8.sb (by simp; omega), ge := HQ.ge, ne := HQ.ne, inva := HQ.inva, invb := HQ.invb }
          have PZS := FS.pt PZ8 (by simp; omega)
          have FALL : Fr [bw] wr (w8.setCell ⟨bw, 1, none⟩ (.slice oo r.length cc)) := (((FQ.trans (FZ.trans hF8))).mono (by simp)).trans FS
          have cw0 := HQ.way.cell
          have cwz := HZ.way.cell
          have cwz2 := (HZ.fr ((Fr.refl [] wz).alloc (.cells #[] TEv))).way.cell
          have cw8 := H8.way.cell
          have zw8 := H8.way.free
          have hO := Lib.hid (ron_step b1 q.b ev (w8.setCell ⟨bw, 1, none⟩ (.slice oo r.length cc)).drew HS8.sb.drew HQ.invb)
          have hS : ∀ w', Fr [b1] (w8.setCell ⟨bw, 1, none⟩ (.slice oo r.length cc)).drew w' → (w'.cell? ⟨bs, 1, none⟩ = some (.pointer (some ⟨b1, 0, none⟩)) ∧ w'.cell? ⟨bz, 0, none⟩ = some (.int .i64 ev.way) ∧ w'.cell? ⟨bz, 1, none⟩ = some (.int .i64 ev.kind) ∧ w'.cell? ⟨bz, 2, none⟩ = some (.int .i64 ev.a) ∧ w'.cell? ⟨bz, 3, none⟩ = some (.int .i64 ev.b) ∧ w'.cell? ⟨bz, 4, none⟩ = some (.int .i64 ev.c) ∧ w'.cell? ⟨bz, 5, none⟩ = some (.string ev.data)) := fun w' hf => by
            have c1 := (hf.pt HS8.sides.drew (by simp; omega)).cell
            have c2 := (hf.pt PZS.drew (by simp; omega)).cell
            refine ⟨c1 1, ?_, ?_, ?_, ?_, ?_, ?_⟩ <;> rw [c2] <;> rfl
          have hS00 := hS _ (Fr.refl _ _)
          have FIN : ∀ w9, Pt w9 b1 RSide (toRS (stepT q.b ev).1).cells → Fr [b1] (w8.setCell ⟨bw, 1, none⟩ (.slice oo r.length cc)).drew w9 → PRx base w9 bs bw b0 b1 (popP q 1) ∧ Below base w0 w9 := fun w9 p9 f9 => by
            have F9 : Fr [b1] (w8.setCell ⟨bw, 1, none⟩ (.slice oo r.length cc)) w9 := ((Fr.refl _ _).drew).trans f9
            refine ⟨⟨v0, .slice oo r.length cc, o0, bo', ?_⟩, ?_⟩
            · rw [hp]
              exact { sides := F9.pt HS8.sides (by simp; omega), way := F9.pt HS8.way (by simp; omega), row1 := HS8.row1.fr F9 (fun x h => by have := HS8.new1 x h; simp; omega), row0 := HS8.row0.fr F9 (fun x h => by have := HS8.new0 x h; simp; omega), apart := HS8.apart, new0 := HS8.new0, new1 := HS8.new1, sb := p9, sa := F9.pt HS8.sa (by simp; omega), ge := HQ.ge, ne := HQ.ne, invb := hiv, inva := HQ.inva }
            · have g : Fr [bw, b1] wr w9 := (FALL.mono (by simp)).trans (F9.mono (by simp))
              have hge := HQ.ge
              exact hB.out.trans (g.below (by have := HM.out.sa.lt; omega) (by simp; omega))
          have h0 : (0 : Int) < ((r.length + 1 : Nat) : Int) := by omega
          have h12 : (1 : Int) < 2 := by omega
          have h02 : (0 : Int) < 2 := by omega
          obtain ⟨xw, xk, xa, xb, xc, xd⟩ := ev
          dsimp only [Ev.val] at hO hS hS00
          have c0 := cq 0 (by omega); have c1 := cq 1 (by omega); have c2 := cq 2 (by omega); have c3 := cq 3 (by omega); have c4 := cq 4 (by omega); have c5 := cq 5 (by omega)
          simp only [Ev.cells, Nat.add_zero, List.getElem?_cons_zero, List.getElem?_cons_succ] at c0 c1 c2 c3 c4 c5 hwz
          clear cq hwq h5 hiv hfin hp hbl HZ PZ8 hb8 hR8 hrz hrow2
          simp only [List.length_cons] at h3
          replace hS := Lib.hid hS; replace hS00 := Lib.hid hS00; replace FIN := Lib.hid FIN; replace HQ := Lib.hid HQ; replace H8 := Lib.hid H8; replace HS8 := Lib.hid HS8; replace FALL := Lib.hid FALL; replace h6 := Lib.hid h6; replace h7 := Lib.hid h7; replace FQ := Lib.hid FQ; replace FZ := Lib.hid FZ; replace hF8 := Lib.hid hF8; replace FS := Lib.hid FS; replace PZ := Lib.hid PZ; replace PZS := Lib.hid PZS
          by_cases hc1 : cap2 = 1
          · rw [if_pos hc1] at hrun
            subst hc1
            obtain rfl : r = [] := by cases r with | nil => rfl | cons _ _ => simp at h3
            simp only [List.length_nil] at hrun
            replace hrun := Lib.hid hrun
            go_wp2_with (first | (at_builtin; refine wpList_append_run _ rfl _ _ _ rfl rfl rfl hrun.out ?_))
            go_region_held3 (fun w' => w'.cell? ⟨bs, 1, none⟩ = some (.pointer (some ⟨b1, 0, none⟩)) ∧ w'.cell? ⟨bz, 0, none⟩ = some (.int .i64 xw) ∧ w'.cell? ⟨bz, 1, none⟩ = some (.int .i64 xk) ∧ w'.cell? ⟨bz, 2, none⟩ = some (.int .i64 xa) ∧ w'.cell? ⟨bz, 3, none⟩ = some (.int .i64 xb) ∧ w'.cell? ⟨bz, 4, none⟩ = some (.int .i64 xc) ∧ w'.cell? ⟨bz, 5, none⟩ = some (.string xd))
              (first | exact hS00.out | exact hS.out _ f3.out) (first | (go_at_call 18; refine hO.out.mono ?_; rintro rr w9 ⟨⟨lv, rfl, hv⟩, p3, f3⟩; replace hv := Lib.hid hv; replace p3 := Lib.hid p3; replace f3 := Lib.hid f3))
            go_wp2
            go_roundw
            case rel => exact ⟨i + 1, by omega, by go_num, by rw [hst.out, deed_5]; exact (FIN.out _ p3.out f3.out).1, (FIN.out _ p3.out f3.out).2⟩
            case measure => simp [intOf]; omega
          · rw [if_neg hc1] at hrun
            have hc2 : (cap2 - 1 = 0) = False := by simp only [eq_iff_iff, iff_false]; omega
            have hc3 : ¬ cap2 ≤ 1 := by omega
            replace hrun := Lib.hid hrun
            go_wp2_with (first | (at_builtin; refine wpList_append_run _ rfl _ _ _ rfl rfl rfl hrun.out ?_))
            go_region_held3 (fun w' => w'.cell? ⟨bs, 1, none⟩ = some (.pointer (some ⟨b1, 0, none⟩)) ∧ w'.cell? ⟨bz, 0, none⟩ = some (.int .i64 xw) ∧ w'.cell? ⟨bz, 1, none⟩ = some (.int .i64 xk) ∧ w'.cell? ⟨bz, 2, none⟩ = some (.int .i64 xa) ∧ w'.cell? ⟨bz, 3, none⟩ = some (.int .i64 xb) ∧ w'.cell? ⟨bz, 4, none⟩ = some (.int .i64 xc) ∧ w'.cell? ⟨bz, 5, none⟩ = some (.string xd))
              (first | exact hS00.out | exact hS.out _ f3.out) (first | (go_at_call 18; refine hO.out.mono ?_; rintro rr w9 ⟨⟨lv, rfl, hv⟩, p3, f3⟩; replace hv := Lib.hid hv; replace p3 := Lib.hid p3; replace f3 := Lib.hid f3))
            go_wp2
            go_roundw
            case rel => exact ⟨i + 1, by omega, by go_num, by rw [hst.out, deed_5]; exact (FIN.out _ p3.out f3.out).1, (FIN.out _ p3.out f3.out).2⟩
            case measure => simp [intOf]; omega
    · obtain ⟨v0, v1, o0, o1, HM⟩ := hM
      have hi : i = ds.length := by omega
      subst hi
      rw [List.take_length] at HM
      have hJe := hJ.out ds
      obtain ⟨q, hq⟩ : ∃ q, runP (startP m t) ds = q := ⟨_, rfl⟩
      obtain ⟨hla, hlb⟩ := runP_len m t ds
      obtain ⟨m0, m1, t0, t1, _⟩ := setOk_spec hok
      rw [hq] at hla hlb hJe HM
      obtain ⟨hsum, hs15⟩ := hJe.sums (by omega) hub
      have hfa := hJe.fa; have hfb := hJe.fb
      have hmb := sumG_mono q.wb (sumG 0 q.wa) hfb
      have hma := sumG_mono q.wa 0 hfa
      have hcw := HM.way.cell
      obtain ⟨z0, d0, rfl, hl0⟩ := HM.row0.evs
      obtain ⟨z1, d1, rfl, hl1⟩ := HM.row1.evs
      replace hl0 := Lib.hid hl0; replace hl1 := Lib.hid hl1; replace HM := Lib.hid HM; replace hB := Lib.hid hB; replace hfa := Lib.hid hfa; replace hfb := Lib.hid hfb; replace hJe := Lib.hid hJe; replace hsum := Lib.hid hsum
      have h02 : (0 : Int) < 2 := by omega
      have h12 : (1 : Int) < 2 := by omega
      clear hl hrange hw3 hw4 hw0 hlt hi0 hlenI
      obtain ⟨wq, hwq⟩ : ∃ x, x = wr := ⟨_, rfl⟩
      subst hwq
      go_wp2_with fail
      go_loopw [23, 24] (fun s v wr' => ∃ i : Nat, i ≤ 2 ∧ v = .int .i64 i ∧ s = .int .i64 (onwS q i) ∧ wr' = wq) (fun _ v _ => (2 - intOf v).toNat)
      case atStart => exact ⟨0, by omega, rfl, rfl, rfl⟩
      case round =>
        obtain ⟨i, hi2, rfl, rfl, rfl⟩ := hrel
        rcases (by omega : i = 0 ∨ i = 1 ∨ i = 2) with rfl | rfl | rfl
        · have hon : onwS q 0 = 0 := rfl
          try rw [hon]
          go_wp2_with fail
          go_loopw [23, 25] (fun s v wr2 => ∃ j : Nat, j ≤ q.wa.length ∧ v = .int .i64 j ∧ s = .int .i64 (sumG 0 (q.wa.take j)) ∧ wr2 = wr) (fun _ v _ => (q.wa.length - intOf v).toNat)
          case atStart => exact ⟨0, by omega, rfl, rfl, rfl⟩
          case round =>
            obtain ⟨j, hj0, rfl, rfl, rfl⟩ := hrel
            by_cases hlj : (j : Int) < q.wa.length
            · have hjl : j < q.wa.length := by omega
              obtain ⟨B, off, rfl, hBl, hc⟩ := hl0.out j hjl
              have hsn := sumG_snoc 0 q.wa j hjl
              have hfe := hfa.out _ (List.getElem_mem hjl)
              have hb1 := sumG_mono (q.wa.take j) 0 (fun x hx => hfa.out x (List.mem_of_mem_take hx))
              have hb2 := sumG_mono (q.wa.drop (j + 1)) (sumG 0 (q.wa.take (j + 1))) (fun x hx => hfa.out x (List.mem_of_mem_drop hx))
              have hap := sumG_app 0 (q.wa.take (j + 1)) (q.wa.drop (j + 1))
              rw [List.take_append_drop] at hap
              rw [← hap] at hb2
              clear hap
              obtain ⟨ev, hev⟩ : ∃ ev, q.wa[j] = ev := ⟨_, rfl⟩
              rw [hev] at hc hsn hfe
              obtain ⟨way, kind, ea, eb, ec, data⟩ := ev
              have c0 := hc 0 (by omega); have c1 := hc 1 (by omega); have c2 := hc 2 (by omega); have c3 := hc 3 (by omega); have c4 := hc 4 (by omega); have c5 := hc 5 (by omega)
              simp only [Ev.cells, Nat.add_zero, List.getElem?_cons_zero, List.getElem?_cons_succ] at c0 c1 c2 c3 c4 c5
              have ha0 := hfe.2.1
              dsimp only at hsn ha0
              clear hc hev hfe
              by_cases hk2 : kind = 2
              · rw [if_pos hk2] at hsn
                rw [hsn] at hb2
                have hw : wrap64 (sumG 0 (q.wa.take j) + ea) = sumG 0 (q.wa.take j) + ea := by unfold wrap64; omega
                go_wp2
                go_roundw
                case rel => exact ⟨j + 1, by omega, by go_num, by rw [hsn], trivial⟩
                case measure => simp [intOf]; omega
              · rw [if_neg hk2] at hsn
                go_wp2
                go_roundw
                case rel => exact ⟨j + 1, by omega, by go_num, by rw [hsn], trivial⟩
                case measure => simp [intOf]; omega
            · have hjl : j = q.wa.length := by omega
              subst hjl
              rw [List.take_length]
              go_wp2
              go_roundw
              case rel => exact ⟨0 + 1, by omega, rfl, rfl, trivial⟩
              case measure => simp [intOf]
        · have hon : onwS q 1 = (sumG 0 q.wa) := rfl
          try rw [hon]
          go_wp2_with fail
          go_loopw [23, 25] (fun s v wr2 => ∃ j : Nat, j ≤ q.wb.length ∧ v = .int .i64 j ∧ s = .int .i64 (sumG (sumG 0 q.wa) (q.wb.take j)) ∧ wr2 = wr) (fun _ v _ => (q.wb.length - intOf v).toNat)
          case atStart => exact ⟨0, by omega, rfl, rfl, rfl⟩
          case round =>
            obtain ⟨j, hj0, rfl, rfl, rfl⟩ := hrel
            by_cases hlj : (j : Int) < q.wb.length
            · have hjl : j < q.wb.length := by omega
              obtain ⟨B, off, rfl, hBl, hc⟩ := hl1.out j hjl
              have hsn := sumG_snoc (sumG 0 q.wa) q.wb j hjl
              have hfe := hfb.out _ (List.getElem_mem hjl)
              have hb1 := sumG_mono (q.wb.take j) (sumG 0 q.wa) (fun x hx => hfb.out x (List.mem_of_mem_take hx))
              have hb2 := sumG_mono (q.wb.drop (j + 1)) (sumG (sumG 0 q.wa) (q.wb.take (j + 1))) (fun x hx => hfb.out x (List.mem_of_mem_drop hx))
              have hap := sumG_app (sumG 0 q.wa) (q.wb.take (j + 1)) (q.wb.drop (j + 1))
              rw [List.take_append_drop] at hap
              rw [← hap] at hb2
              clear hap
              obtain ⟨ev, hev⟩ : ∃ ev, q.wb[j] = ev := ⟨_, rfl⟩
              rw [hev] at hc hsn hfe
              obtain ⟨way, kind, ea, eb, ec, data⟩ := ev
              have c0 := hc 0 (by omega); have c1 := hc 1 (by omega); have c2 := hc 2 (by omega); have c3 := hc 3 (by omega); have c4 := hc 4 (by omega); have c5 := hc 5 (by omega)
              simp only [Ev.cells, Nat.add_zero, List.getElem?_cons_zero, List.getElem?_cons_succ] at c0 c1 c2 c3 c4 c5
              have ha0 := hfe.2.1
              dsimp only at hsn ha0
              clear hc hev hfe
              by_cases hk2 : kind = 2
              · rw [if_pos hk2] at hsn
                rw [hsn] at hb2
                have hw : wrap64 (sumG (sumG 0 q.wa) (q.wb.take j) + ea) = sumG (sumG 0 q.wa) (q.wb.take j) + ea := by unfold wrap64; omega
                go_wp2
                go_roundw
                case rel => exact ⟨j + 1, by omega, by go_num, by rw [hsn], trivial⟩
                case measure => simp [intOf]; omega
              · rw [if_neg hk2] at hsn
                go_wp2
                go_roundw
                case rel => exact ⟨j + 1, by omega, by go_num, by rw [hsn], trivial⟩
                case measure => simp [intOf]; omega
            · have hjl : j = q.wb.length := by omega
              subst hjl
              rw [List.take_length]
              go_wp2
              go_roundw
              case rel => exact ⟨1 + 1, by omega, rfl, rfl, trivial⟩
              case measure => simp [intOf]
        · have hon : onwS q 2 = sumG (sumG 0 q.wa) q.wb := rfl
          have A1 := Lib.hid (rmine_is b0 q.a wr HM.out.sa HM.out.inva)
          have A2 := Lib.hid (rmine_is b1 q.b wr HM.out.sb HM.out.invb)
          have hPr : Pt wr br 53 [.int .i64 0, .int .i64 0] := by
            exact (hB.out.block br (by omega)).trans P0.out
          have hpc := hPr.cell
          have hpf := hPr.free
          go_wp2_with fail
          refine A1.out.mono ?_
          rintro e w5 ⟨rfl, rfl⟩
          go_wp2_with fail
          refine A2.out.mono ?_
          rintro e w5 ⟨rfl, rfl⟩
          go_wp2_with fail
          rw [hq]
          refine bodyPost_ret (v := .tuple #[.agg #[.int .i64 q.a.mine, .int .i64 q.b.mine], .int .i64 (sumG (sumG 0 q.wa) q.wb), .int .i64 0]) (by simp [results, Tryd.results24, go_sem, hpc]) rfl ⟨by rw [hsum.out], ?_⟩
          have hb0l := HM.out.sa.lt
          have F1 := ((Fr.refl [br] wr).setCell (p := ⟨br, 0, none⟩) (by simp) (.int .i64 q.a.mine)).setCell (p := ⟨br, 1, none⟩) (by simp) (.int .i64 q.b.mine)
          rw [hbr]
          exact ((f0.out.below (Nat.le_of_eq hbr.symm) (by simp)).trans ((hB.out.mono (by omega)).trans (F1.below (by omega) (by simp))))
end Go.Proofs.YtkkmjjddalpocaaDoor
