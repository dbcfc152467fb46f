import Derived.Test.YtkkmjjddalpocaaDoorRef4
namespace Go.Proofs.YtkkmjjddalpocaaDoor
open Go.RowKit
set_option linter.unusedVariables false
set_option linter.unusedSimpArgs false
set_option maxHeartbeats 8000000
section
variable (b : Nat) (s : RS) (e : Ev) (w : World)
theorem rbelow2 (hp : Pt w b RSide s.cells) (hk : e.kind = 2) (a0 : 0 ≤ e.a) (a1 : e.a ≤ 15) :
    Calls Tryd.prog 32 #[.pointer (some ⟨b, 0, none⟩), e.val] w (RBPost b w (rbelowP s e)) := by
  have hR : rbelowP s e = if s.told e.a 2 = 0 then (s, []) else (s.giveT (s.told e.a 2) 1 4, [toldEv 2 (s.told e.a 2) 0]) := by unfold rbelowP; rw [if_pos hk]
  have hbx : Pt (boxed w e) w.heap.size TEv e.cells := Pt.newA _ _ _
  have hfb : Fr [b] w (boxed w e) := (Fr.refl _ _).alloc _
  have hpb : Pt (boxed w e) b RSide s.cells := hp.alloc _
  have hlt := hp.lt
  have hzz : (boxed w e).heap.size = w.heap.size + 1 := by simp
  obtain ⟨t0, t1⟩ := told_in s e.a 2
  have HR := Lib.hid hR
  clear hR hp
  obtain ⟨way, kind, ea, eb, ec, data⟩ := e
  dsimp only [Ev.val] at HR hbx hfb hpb hk a0 a1 t0 t1 hzz ⊢
  subst hk
  go_enter Tryd.func32, Tryd.ntmps32
  go_wp2
  have hbx' : Pt (w.alloc (.cells #[.int .i64 way, .int .i64 2, .int .i64 ea, .int .i64 eb, .int .i64 ec, .string data] TEv)) w.heap.size TEv [.int .i64 way, .int .i64 2, .int .i64 ea, .int .i64 eb, .int .i64 ec, .string data] := hbx
  have hpb' : Pt (w.alloc (.cells #[.int .i64 way, .int .i64 2, .int .i64 ea, .int .i64 eb, .int .i64 ec, .string data] TEv)) b RSide s.cells := hpb
  have hfb' : Fr [b] w (w.alloc (.cells #[.int .i64 way, .int .i64 2, .int .i64 ea, .int .i64 eb, .int .i64 ec, .string data] TEv)) := hfb
  have hzz' : (w.alloc (.cells #[.int .i64 way, .int .i64 2, .int .i64 ea, .int .i64 eb, .int .i64 ec, .string data] TEv)).heap.size = w.heap.size + 1 := hzz
  clear hbx hpb hfb hzz
  generalize w.alloc (.cells #[.int .i64 way, .int .i64 2, .int .i64 ea, .int .i64 eb, .int .i64 ec, .string data] TEv) = W0 at *
  have hcx := hbx'.cell
  have hcb := hpb'.cell
  simp only [RS.cells] at hcb
  have HPB := Lib.hid hpb'
  have HBX := Lib.hid hbx'
  have HFB := Lib.hid hfb'
  have HZ := Lib.hid hzz'
  clear hpb' hbx' hfb' hzz'
  go_loop [6, 7] (fun n i => ∃ k : Int, -1 ≤ k ∧ k ≤ 3 ∧ i = .int .i64 k ∧ n = .int .i64 (s.toldT ea 2 k)) (fun _ i => (intOf i + 1).toNat)
  case atStart => exact ⟨3, by omega, by omega, rfl, rfl⟩
  case round =>
    obtain ⟨k, hk0, hk1, rfl, rfl⟩ := hrel
    have i3 := bt01_in (inB ea 3 && s.h3 == 2)
    have i2 := bt01_in (inB ea 2 && s.h2 == 2)
    have i1 := bt01_in (inB ea 1 && s.h1 == 2)
    have i0 := bt01_in (inB ea 0 && s.h0 == 2)
    have hk : k = 3 ∨ k = 2 ∨ k = 1 ∨ k = 0 ∨ k = -1 := by omega
    clear hk0 hk1
    rcases hk with rfl | rfl | rfl | rfl | rfl
    · have hn : 0 ≤ s.toldT ea 2 3 ∧ s.toldT ea 2 3 ≤ 15 := by simp only [RS.toldT]; simp; try omega
      have hn' : s.toldT ea 2 2 = 2 * s.toldT ea 2 3 + bt01 (inB ea 3 && s.h3 == 2) := by simp only [RS.toldT, RS.told]; simp; try omega
      obtain ⟨n, hnn⟩ : ∃ n, s.toldT ea 2 3 = n := ⟨_, rfl⟩
      rw [hnn] at hn hn' ⊢
      obtain ⟨n0, n1⟩ := hn
      have HN := Lib.hid hn'
      have HI := Lib.hid (in_any ea 3 W0 a0 a1 (by omega))
      clear hn' hnn i3 i2 i1 i0
      rcases hi : inB ea 3 with _ | _
      · rw [hi] at HN HI
        go_wp2_with (go_at_call 41; refine HI.out.mono ?_; rintro e w' ⟨rfl, rfl⟩)
        go_round
        case rel => exact ⟨3-1, by omega, by omega, rfl, by show _ = Value.int .i64 (s.toldT ea 2 2); rw [HN.out]; simp [bt01]⟩
        case measure => simp [intOf]
      · rcases hq : (s.h3 == 2) with _ | _
        all_goals
          rw [hi, hq] at HN
          rw [hi] at HI
          go_wp2_with (go_at_call 41; refine HI.out.mono ?_; rintro e w' ⟨rfl, rfl⟩)
          go_round
          case rel => exact ⟨3-1, by omega, by omega, rfl, by show _ = Value.int .i64 (s.toldT ea 2 2); rw [HN.out]; simp [bt01]⟩
          case measure => simp [intOf]
    · have hn : 0 ≤ s.toldT ea 2 2 ∧ s.toldT ea 2 2 ≤ 15 := by simp only [RS.toldT]; simp; try omega
      have hn' : s.toldT ea 2 1 = 2 * s.toldT ea 2 2 + bt01 (inB ea 2 && s.h2 == 2) := by simp only [RS.toldT, RS.told]; simp; try omega
      obtain ⟨n, hnn⟩ : ∃ n, s.toldT ea 2 2 = n := ⟨_, rfl⟩
      rw [hnn] at hn hn' ⊢
      obtain ⟨n0, n1⟩ := hn
      have HN := Lib.hid hn'
      have HI := Lib.hid (in_any ea 2 W0 a0 a1 (by omega))
      clear hn' hnn i3 i2 i1 i0
      rcases hi : inB ea 2 with _ | _
      · rw [hi] at HN HI
        go_wp2_with (go_at_call 41; refine HI.out.mono ?_; rintro e w' ⟨rfl, rfl⟩)
        go_round
        case rel => exact ⟨2-1, by omega, by omega, rfl, by show _ = Value.int .i64 (s.toldT ea 2 1); rw [HN.out]; simp [bt01]⟩
        case measure => simp [intOf]
      · rcases hq : (s.h2 == 2) with _ | _
        all_goals
          rw [hi, hq] at HN
          rw [hi] at HI
          go_wp2_with (go_at_call 41; refine HI.out.mono ?_; rintro e w' ⟨rfl, rfl⟩)
          go_round
          case rel => exact ⟨2-1, by omega, by omega, rfl, by show _ = Value.int .i64 (s.toldT ea 2 1); rw [HN.out]; simp [bt01]⟩
          case measure => simp [intOf]
    · have hn : 0 ≤ s.toldT ea 2 1 ∧ s.toldT ea 2 1 ≤ 15 := by simp only [RS.toldT]; simp; try omega
      have hn' : s.toldT ea 2 0 = 2 * s.toldT ea 2 1 + bt01 (inB ea 1 && s.h1 == 2) := by simp only [RS.toldT, RS.told]; simp; try omega
      obtain ⟨n, hnn⟩ : ∃ n, s.toldT ea 2 1 = n := ⟨_, rfl⟩
      rw [hnn] at hn hn' ⊢
      obtain ⟨n0, n1⟩ := hn
      have HN := Lib.hid hn'
      have HI := Lib.hid (in_any ea 1 W0 a0 a1 (by omega))
      clear hn' hnn i3 i2 i1 i0
      rcases hi : inB ea 1 with _ | _
      · rw [hi] at HN HI
        go_wp2_with (go_at_call 41; refine HI.out.mono ?_; rintro e w' ⟨rfl, rfl⟩)
        go_round
        case rel => exact ⟨1-1, by omega, by omega, rfl, by show _ = Value.int .i64 (s.toldT ea 2 0); rw [HN.out]; simp [bt01]⟩
        case measure => simp [intOf]
      · rcases hq : (s.h1 == 2) with _ | _
        all_goals
          rw [hi, hq] at HN
          rw [hi] at HI
          go_wp2_with (go_at_call 41; refine HI.out.mono ?_; rintro e w' ⟨rfl, rfl⟩)
          go_round
          case rel => exact ⟨1-1, by omega, by omega, rfl, by show _ = Value.int .i64 (s.toldT ea 2 0); rw [HN.out]; simp [bt01]⟩
          case measure => simp [intOf]
    · have hn : 0 ≤ s.toldT ea 2 0 ∧ s.toldT ea 2 0 ≤ 15 := by simp only [RS.toldT]; simp; try omega
      have hn' : s.toldT ea 2 (-1) = 2 * s.toldT ea 2 0 + bt01 (inB ea 0 && s.h0 == 2) := by simp only [RS.toldT, RS.told]; simp; try omega
      obtain ⟨n, hnn⟩ : ∃ n, s.toldT ea 2 0 = n := ⟨_, rfl⟩
      rw [hnn] at hn hn' ⊢
      obtain ⟨n0, n1⟩ := hn
      have HN := Lib.hid hn'
      have HI := Lib.hid (in_any ea 0 W0 a0 a1 (by omega))
      clear hn' hnn i3 i2 i1 i0
      rcases hi : inB ea 0 with _ | _
      · rw [hi] at HN HI
        go_wp2_with (go_at_call 41; refine HI.out.mono ?_; rintro e w' ⟨rfl, rfl⟩)
        go_round
        case rel => exact ⟨0-1, by omega, by omega, rfl, by show _ = Value.int .i64 (s.toldT ea 2 (-1)); rw [HN.out]; simp [bt01]⟩
        case measure => simp [intOf]
      · rcases hq : (s.h0 == 2) with _ | _
        all_goals
          rw [hi, hq] at HN
          rw [hi] at HI
          go_wp2_with (go_at_call 41; refine HI.out.mono ?_; rintro e w' ⟨rfl, rfl⟩)
          go_round
          case rel => exact ⟨0-1, by omega, by omega, rfl, by show _ = Value.int .i64 (s.toldT ea 2 (-1)); rw [HN.out]; simp [bt01]⟩
          case measure => simp [intOf]
    · have hn : s.toldT ea 2 (-1) = s.told ea 2 := by simp [RS.toldT]
      rw [hn]
      obtain ⟨u, hu⟩ : ∃ u, s.told ea 2 = u := ⟨_, rfl⟩
      rw [hu] at t0 t1 HR ⊢
      clear hn hu i3 i2 i1 i0
      by_cases hu0 : u = 0
      · rw [if_pos hu0] at HR
        have h00 : (u == 0) = true := by simpa using hu0
        clear hu0
        go_wp2
        go_ret
        unfold RBPost
        rw [HR.out]
        exact ⟨⟨_, rfl, .inl ⟨rfl, rfl⟩⟩, HPB.out, HFB.out⟩
      · rw [if_neg hu0] at HR
        have h00 : (u == 0) = false := by simpa using hu0
        clear hu0
        go_wp2_with fail
        refine (rgive_any b s u 1 W0 HPB.out t0 t1).mono ?_
        rintro r w1 ⟨rfl, hq, hf⟩
        have hs := hf.size
        have hz := HZ.out
        clear hcx hcb
        go_wp2
        go_ret
        unfold RBPost
        rw [HR.out]
        exact ⟨⟨_, rfl, .inr ⟨_, toldEv 2 u 0, rfl, rfl, Pt.newA _ _ _, by omega⟩⟩, hq.alloc _, (HFB.out.trans hf).alloc _⟩
theorem rbelow1 (hp : Pt w b RSide s.cells) (hk : e.kind = 1) (a0 : 0 ≤ e.a) (a1 : e.a ≤ 15) :
    Calls Tryd.prog 32 #[.pointer (some ⟨b, 0, none⟩), e.val] w (RBPost b w (rbelowP s e)) := by
  have hR : rbelowP s e = if s.told e.a 1 = 0 then (s, []) else (s.askT (s.told e.a 1) e.b 4, [toldEv 1 (s.told e.a 1) e.b]) := by unfold rbelowP; rw [if_neg (by omega)]
  have hbx : Pt (boxed w e) w.heap.size TEv e.cells := Pt.newA _ _ _
  have hfb : Fr [b] w (boxed w e) := (Fr.refl _ _).alloc _
  have hpb : Pt (boxed w e) b RSide s.cells := hp.alloc _
  have hlt := hp.lt
  have hzz : (boxed w e).heap.size = w.heap.size + 1 := by simp
  obtain ⟨t0, t1⟩ := told_in s e.a 1
  have HR := Lib.hid hR
  clear hR hp
  obtain ⟨way, kind, ea, eb, ec, data⟩ := e
  dsimp only [Ev.val] at HR hbx hfb hpb hk a0 a1 t0 t1 hzz ⊢
  subst hk
  go_enter Tryd.func32, Tryd.ntmps32
  go_wp2
  have hbx' : Pt (w.alloc (.cells #[.int .i64 way, .int .i64 1, .int .i64 ea, .int .i64 eb, .int .i64 ec, .string data] TEv)) w.heap.size TEv [.int .i64 way, .int .i64 1, .int .i64 ea, .int .i64 eb, .int .i64 ec, .string data] := hbx
  have hpb' : Pt (w.alloc (.cells #[.int .i64 way, .int .i64 1, .int .i64 ea, .int .i64 eb, .int .i64 ec, .string data] TEv)) b RSide s.cells := hpb
  have hfb' : Fr [b] w (w.alloc (.cells #[.int .i64 way, .int .i64 1, .int .i64 ea, .int .i64 eb, .int .i64 ec, .string data] TEv)) := hfb
  have hzz' : (w.alloc (.cells #[.int .i64 way, .int .i64 1, .int .i64 ea, .int .i64 eb, .int .i64 ec, .string data] TEv)).heap.size = w.heap.size + 1 := hzz
  clear hbx hpb hfb hzz
  generalize w.alloc (.cells #[.int .i64 way, .int .i64 1, .int .i64 ea, .int .i64 eb, .int .i64 ec, .string data] TEv) = W0 at *
  have hcx := hbx'.cell
  have hcb := hpb'.cell
  simp only [RS.cells] at hcb
  have HPB := Lib.hid hpb'
  have HBX := Lib.hid hbx'
  have HFB := Lib.hid hfb'
  have HZ := Lib.hid hzz'
  clear hpb' hbx' hfb' hzz'
  go_loop [6, 7] (fun n i => ∃ k : Int, -1 ≤ k ∧ k ≤ 3 ∧ i = .int .i64 k ∧ n = .int .i64 (s.toldT ea 1 k)) (fun _ i => (intOf i + 1).toNat)
  case atStart => exact ⟨3, by omega, by omega, rfl, rfl⟩
  case round =>
    obtain ⟨k, hk0, hk1, rfl, rfl⟩ := hrel
    have i3 := bt01_in (inB ea 3 && s.h3 == 1)
    have i2 := bt01_in (inB ea 2 && s.h2 == 1)
    have i1 := bt01_in (inB ea 1 && s.h1 == 1)
    have i0 := bt01_in (inB ea 0 && s.h0 == 1)
    have hk : k = 3 ∨ k = 2 ∨ k = 1 ∨ k = 0 ∨ k = -1 := by omega
    clear hk0 hk1
    rcases hk with rfl | rfl | rfl | rfl | rfl
    · have hn : 0 ≤ s.toldT ea 1 3 ∧ s.toldT ea 1 3 ≤ 15 := by simp only [RS.toldT]; simp; try omega
      have hn' : s.toldT ea 1 2 = 2 * s.toldT ea 1 3 + bt01 (inB ea 3 && s.h3 == 1) := by simp only [RS.toldT, RS.told]; simp; try omega
      obtain ⟨n, hnn⟩ : ∃ n, s.toldT ea 1 3 = n := ⟨_, rfl⟩
      rw [hnn] at hn hn' ⊢
      obtain ⟨n0, n1⟩ := hn
      have HN := Lib.hid hn'
      have HI := Lib.hid (in_any ea 3 W0 a0 a1 (by omega))
      clear hn' hnn i3 i2 i1 i0
      rcases hi : inB ea 3 with _ | _
      · rw [hi] at HN HI
        go_wp2_with (go_at_call 41; refine HI.out.mono ?_; rintro e w' ⟨rfl, rfl⟩)
        go_round
        case rel => exact ⟨3-1, by omega, by omega, rfl, by show _ = Value.int .i64 (s.toldT ea 1 2); rw [HN.out]; simp [bt01]⟩
        case measure => simp [intOf]
      · rcases hq : (s.h3 == 1) with _ | _
        all_goals
          rw [hi, hq] at HN
          rw [hi] at HI
          go_wp2_with (go_at_call 41; refine HI.out.mono ?_; rintro e w' ⟨rfl, rfl⟩)
          go_round
          case rel => exact ⟨3-1, by omega, by omega, rfl, by show _ = Value.int .i64 (s.toldT ea 1 2); rw [HN.out]; simp [bt01]⟩
          case measure => simp [intOf]
    · have hn : 0 ≤ s.toldT ea 1 2 ∧ s.toldT ea 1 2 ≤ 15 := by simp only [RS.toldT]; simp; try omega
      have hn' : s.toldT ea 1 1 = 2 * s.toldT ea 1 2 + bt01 (inB ea 2 && s.h2 == 1) := by simp only [RS.toldT, RS.told]; simp; try omega
      obtain ⟨n, hnn⟩ : ∃ n, s.toldT ea 1 2 = n := ⟨_, rfl⟩
      rw [hnn] at hn hn' ⊢
      obtain ⟨n0, n1⟩ := hn
      have HN := Lib.hid hn'
      have HI := Lib.hid (in_any ea 2 W0 a0 a1 (by omega))
      clear hn' hnn i3 i2 i1 i0
      rcases hi : inB ea 2 with _ | _
      · rw [hi] at HN HI
        go_wp2_with (go_at_call 41; refine HI.out.mono ?_; rintro e w' ⟨rfl, rfl⟩)
        go_round
        case rel => exact ⟨2-1, by omega, by omega, rfl, by show _ = Value.int .i64 (s.toldT ea 1 1); rw [HN.out]; simp [bt01]⟩
        case measure => simp [intOf]
      · rcases hq : (s.h2 == 1) with _ | _
        all_goals
          rw [hi, hq] at HN
          rw [hi] at HI
          go_wp2_with (go_at_call 41; refine HI.out.mono ?_; rintro e w' ⟨rfl, rfl⟩)
          go_round
          case rel => exact ⟨2-1, by omega, by omega, rfl, by show _ = Value.int .i64 (s.toldT ea 1 1); rw [HN.out]; simp [bt01]⟩
          case measure => simp [intOf]
    · have hn : 0 ≤ s.toldT ea 1 1 ∧ s.toldT ea 1 1 ≤ 15 := by simp only [RS.toldT]; simp; try omega
      have hn' : s.toldT ea 1 0 = 2 * s.toldT ea 1 1 + bt01 (inB ea 1 && s.h1 == 1) := by simp only [RS.toldT, RS.told]; simp; try omega
      obtain ⟨n, hnn⟩ : ∃ n, s.toldT ea 1 1 = n := ⟨_, rfl⟩
      rw [hnn] at hn hn' ⊢
      obtain ⟨n0, n1⟩ := hn
      have HN := Lib.hid hn'
      have HI := Lib.hid (in_any ea 1 W0 a0 a1 (by omega))
      clear hn' hnn i3 i2 i1 i0
      rcases hi : inB ea 1 with _ | _
      · rw [hi] at HN HI
        go_wp2_with (go_at_call 41; refine HI.out.mono ?_; rintro e w' ⟨rfl, rfl⟩)
        go_round
        case rel => exact ⟨1-1, by omega, by omega, rfl, by show _ = Value.int .i64 (s.toldT ea 1 0); rw [HN.out]; simp [bt01]⟩
        case measure => simp [intOf]
      · rcases hq : (s.h1 == 1) with _ | _
        all_goals
          rw [hi, hq] at HN
          rw [hi] at HI
          go_wp2_with (go_at_call 41; refine HI.out.mono ?_; rintro e w' ⟨rfl, rfl⟩)
          go_round
          case rel => exact ⟨1-1, by omega, by omega, rfl, by show _ = Value.int .i64 (s.toldT ea 1 0); rw [HN.out]; simp [bt01]⟩
          case measure => simp [intOf]
    · have hn : 0 ≤ s.toldT ea 1 0 ∧ s.toldT ea 1 0 ≤ 15 := by simp only [RS.toldT]; simp; try omega
      have hn' : s.toldT ea 1 (-1) = 2 * s.toldT ea 1 0 + bt01 (inB ea 0 && s.h0 == 1) := by simp only [RS.toldT, RS.told]; simp; try omega
      obtain ⟨n, hnn⟩ : ∃ n, s.toldT ea 1 0 = n := ⟨_, rfl⟩
      rw [hnn] at hn hn' ⊢
      obtain ⟨n0, n1⟩ := hn
      have HN := Lib.hid hn'
      have HI := Lib.hid (in_any ea 0 W0 a0 a1 (by omega))
      clear hn' hnn i3 i2 i1 i0
      rcases hi : inB ea 0 with _ | _
      · rw [hi] at HN HI
        go_wp2_with (go_at_call 41; refine HI.out.mono ?_; rintro e w' ⟨rfl, rfl⟩)
        go_round
        case rel => exact ⟨0-1, by omega, by omega, rfl, by show _ = Value.int .i64 (s.toldT ea 1 (-1)); rw [HN.out]; simp [bt01]⟩
        case measure => simp [intOf]
      · rcases hq : (s.h0 == 1) with _ | _
        all_goals
          rw [hi, hq] at HN
          rw [hi] at HI
          go_wp2_with (go_at_call 41; refine HI.out.mono ?_; rintro e w' ⟨rfl, rfl⟩)
          go_round
          case rel => exact ⟨0-1, by omega, by omega, rfl, by show _ = Value.int .i64 (s.toldT ea 1 (-1)); rw [HN.out]; simp [bt01]⟩
          case measure => simp [intOf]
    · have hn : s.toldT ea 1 (-1) = s.told ea 1 := by simp [RS.toldT]
      rw [hn]
      obtain ⟨u, hu⟩ : ∃ u, s.told ea 1 = u := ⟨_, rfl⟩
      rw [hu] at t0 t1 HR ⊢
      clear hn hu i3 i2 i1 i0
      by_cases hu0 : u = 0
      · rw [if_pos hu0] at HR
        have h00 : (u == 0) = true := by simpa using hu0
        clear hu0
        go_wp2
        go_ret
        unfold RBPost
        rw [HR.out]
        exact ⟨⟨_, rfl, .inl ⟨rfl, rfl⟩⟩, HPB.out, HFB.out⟩
      · rw [if_neg hu0] at HR
        have h00 : (u == 0) = false := by simpa using hu0
        clear hu0
        go_wp2
        clear hcx hcb
        go_loopw [8] (fun i wr => ∃ k : Nat, k ≤ 4 ∧ i = .int .i64 k ∧ Pt wr b RSide (s.askT u eb k).cells ∧ Pt wr w.heap.size TEv [.int .i64 way, .int .i64 1, .int .i64 ea, .int .i64 eb, .int .i64 ec, .string data] ∧ Fr [b] w wr ∧ w.heap.size + 1 ≤ wr.heap.size) (fun i _ => 4 - (intOf i).toNat)
        case atStart => exact ⟨0, by omega, rfl, by simpa [RS.askT] using HPB.out, HBX.out, HFB.out, by rw [HZ.out]; exact Nat.le_refl _⟩
        case round =>
          obtain ⟨k, hk0, rfl, hpk, hxk, hfk, hsk⟩ := hrel
          have hk : k = 0 ∨ k = 1 ∨ k = 2 ∨ k = 3 ∨ k = 4 := by omega
          have hcx := hxk.cell
          clear hk0
          rcases hk with rfl | rfl | rfl | rfl | rfl
          · have HI := Lib.hid (in_any u 0 wr t0 t1 (by omega))
            obtain ⟨q, hq⟩ : ∃ q, s.askT u eb 0 = q := ⟨_, rfl⟩
            rw [hq] at hpk
            rcases hi : inB u 0 with _ | _
            · have HN : Hid (s.askT u eb 1 = q) := by rw [← hq]; unfold Hid; simp [RS.askT, hi]
              rw [hi] at HI
              clear hq
              have HP := Lib.hid hpk
              clear hpk
              go_wp2_with (go_at_call 41; refine HI.out.mono ?_; rintro e w' ⟨rfl, rfl⟩)
              go_roundw
              case rel => exact ⟨1, by omega, rfl, by rw [HN.out]; exact HP.out, hxk, hfk, hsk⟩
              case measure => simp [intOf]
            · have HN : Hid (s.askT u eb 1 = { q with a0 := max q.a0 eb }) := by rw [← hq]; unfold Hid; simp [RS.askT, hi]
              rw [hi] at HI
              clear hq
              obtain ⟨qm, q0, q1, q2, q3, r0, r1, r2, r3⟩ := q
              have hc := hpk.cell
              have hz := hpk.free
              simp only [RS.cells] at hc
              have HP := Lib.hid hpk
              have hdone : ∀ (v : Int), v = max r0 eb → Pt (wr.setCell ⟨b, 5, none⟩ (.int .i64 v)).drew b RSide (s.askT u eb 1).cells ∧ Pt (wr.setCell ⟨b, 5, none⟩ (.int .i64 v)).drew w.heap.size TEv [.int .i64 way, .int .i64 1, .int .i64 ea, .int .i64 eb, .int .i64 ec, .string data] ∧ Fr [b] w (wr.setCell ⟨b, 5, none⟩ (.int .i64 v)).drew ∧ w.heap.size + 1 ≤ (wr.setCell ⟨b, 5, none⟩ (.int .i64 v)).drew.heap.size := by
                rintro v rfl
                refine ⟨?_, (hxk.ne (by simp; omega) _).drew, (hfk.setCell (by simp) _).drew, by simpa using hsk⟩
                rw [HN.out]
                exact (HP.out.set' rfl).drew
              have HD := Lib.hid hdone
              clear hpk hdone HN
              go_wp2_with (go_at_call 41; refine HI.out.mono ?_; rintro e w' ⟨rfl, rfl⟩)
              go_still_tail 14, (by kernel_rfl)
              go_wp2
              all_goals
                go_roundw
                case rel => exact ⟨1, by omega, rfl, HD.out _ (by omega)⟩
                case measure => simp [intOf]
          · have HI := Lib.hid (in_any u 1 wr t0 t1 (by omega))
            obtain ⟨q, hq⟩ : ∃ q, s.askT u eb 1 = q := ⟨_, rfl⟩
            rw [hq] at hpk
            rcases hi : inB u 1 with _ | _
            · have HN : Hid (s.askT u eb 2 = q) := by rw [← hq]; unfold Hid; simp [RS.askT, hi]
              rw [hi] at HI
              clear hq
              have HP := Lib.hid hpk
              clear hpk
              go_wp2_with (go_at_call 41; refine HI.out.mono ?_; rintro e w' ⟨rfl, rfl⟩)
              go_roundw
              case rel => exact ⟨2, by omega, rfl, by rw [HN.out]; exact HP.out, hxk, hfk, hsk⟩
              case measure => simp [intOf]
            · have HN : Hid (s.askT u eb 2 = { q with a1 := max q.a1 eb }) := by rw [← hq]; unfold Hid; simp [RS.askT, hi]
              rw [hi] at HI
              clear hq
              obtain ⟨qm, q0, q1, q2, q3, r0, r1, r2, r3⟩ := q
              have hc := hpk.cell
              have hz := hpk.free
              simp only [RS.cells] at hc
              have HP := Lib.hid hpk
              have hdone : ∀ (v : Int), v = max r1 eb → Pt (wr.setCell ⟨b, 6, none⟩ (.int .i64 v)).drew b RSide (s.askT u eb 2).cells ∧ Pt (wr.setCell ⟨b, 6, none⟩ (.int .i64 v)).drew w.heap.size TEv [.int .i64 way, .int .i64 1, .int .i64 ea, .int .i64 eb, .int .i64 ec, .string data] ∧ Fr [b] w (wr.setCell ⟨b, 6, none⟩ (.int .i64 v)).drew ∧ w.heap.size + 1 ≤ (wr.setCell ⟨b, 6, none⟩ (.int .i64 v)).drew.heap.size := by
                rintro v rfl
                refine ⟨?_, (hxk.ne (by simp; omega) _).drew, (hfk.setCell (by simp) _).drew, by simpa using hsk⟩
                rw [HN.out]
                exact (HP.out.set' rfl).drew
              have HD := Lib.hid hdone
              clear hpk hdone HN
              go_wp2_with (go_at_call 41; refine HI.out.mono ?_; rintro e w' ⟨rfl, rfl⟩)
              go_still_tail 14, (by kernel_rfl)
              go_wp2
              all_goals
                go_roundw
                case rel => exact ⟨2, by omega, rfl, HD.out _ (by omega)⟩
                case measure => simp [intOf]
          · have HI := Lib.hid (in_any u 2 wr t0 t1 (by omega))
            obtain ⟨q, hq⟩ : ∃ q, s.askT u eb 2 = q := ⟨_, rfl⟩
            rw [hq] at hpk
            rcases hi : inB u 2 with _ | _
            · have HN : Hid (s.askT u eb 3 = q) := by rw [← hq]; unfold Hid; simp [RS.askT, hi]
              rw [hi] at HI
              clear hq
              have HP := Lib.hid hpk
              clear hpk
              go_wp2_with (go_at_call 41; refine HI.out.mono ?_; rintro e w' ⟨rfl, rfl⟩)
              go_roundw
              case rel => exact ⟨3, by omega, rfl, by rw [HN.out]; exact HP.out, hxk, hfk, hsk⟩
              case measure => simp [intOf]
            · have HN : Hid (s.askT u eb 3 = { q with a2 := max q.a2 eb }) := by rw [← hq]; unfold Hid; simp [RS.askT, hi]
              rw [hi] at HI
              clear hq
              obtain ⟨qm, q0, q1, q2, q3, r0, r1, r2, r3⟩ := q
              have hc := hpk.cell
              have hz := hpk.free
              simp only [RS.cells] at hc
              have HP := Lib.hid hpk
              have hdone : ∀ (v : Int), v = max r2 eb → Pt (wr.setCell ⟨b, 7, none⟩ (.int .i64 v)).drew b RSide (s.askT u eb 3).cells ∧ Pt (wr.setCell ⟨b, 7, none⟩ (.int .i64 v)).drew w.heap.size TEv [.int .i64 way, .int .i64 1, .int .i64 ea, .int .i64 eb, .int .i64 ec, .string data] ∧ Fr [b] w (wr.setCell ⟨b, 7, none⟩ (.int .i64 v)).drew ∧ w.heap.size + 1 ≤ (wr.setCell ⟨b, 7, none⟩ (.int .i64 v)).drew.heap.size := by
                rintro v rfl
                refine ⟨?_, (hxk.ne (by simp; omega) _).drew, (hfk.setCell (by simp) _).drew, by simpa using hsk⟩
                rw [HN.out]
                exact (HP.out.set' rfl).drew
              have HD := Lib.hid hdone
              clear hpk hdone HN
              go_wp2_with (go_at_call 41; refine HI.out.mono ?_; rintro e w' ⟨rfl, rfl⟩)
              go_still_tail 14, (by kernel_rfl)
              go_wp2
              all_goals
                go_roundw
                case rel => exact ⟨3, by omega, rfl, HD.out _ (by omega)⟩
                case measure => simp [intOf]
          · have HI := Lib.hid (in_any u 3 wr t0 t1 (by omega))
            obtain ⟨q, hq⟩ : ∃ q, s.askT u eb 3 = q := ⟨_, rfl⟩
            rw [hq] at hpk
            rcases hi : inB u 3 with _ | _
            · have HN : Hid (s.askT u eb 4 = q) := by rw [← hq]; unfold Hid; simp [RS.askT, hi]
              rw [hi] at HI
              clear hq
              have HP := Lib.hid hpk
              clear hpk
              go_wp2_with (go_at_call 41; refine HI.out.mono ?_; rintro e w' ⟨rfl, rfl⟩)
              go_roundw
              case rel => exact ⟨4, by omega, rfl, by rw [HN.out]; exact HP.out, hxk, hfk, hsk⟩
              case measure => simp [intOf]
            · have HN : Hid (s.askT u eb 4 = { q with a3 := max q.a3 eb }) := by rw [← hq]; unfold Hid; simp [RS.askT, hi]
              rw [hi] at HI
              clear hq
              obtain ⟨qm, q0, q1, q2, q3, r0, r1, r2, r3⟩ := q
              have hc := hpk.cell
              have hz := hpk.free
              simp only [RS.cells] at hc
              have HP := Lib.hid hpk
              have hdone : ∀ (v : Int), v = max r3 eb → Pt (wr.setCell ⟨b, 8, none⟩ (.int .i64 v)).drew b RSide (s.askT u eb 4).cells ∧ Pt (wr.setCell ⟨b, 8, none⟩ (.int .i64 v)).drew w.heap.size TEv [.int .i64 way, .int .i64 1, .int .i64 ea, .int .i64 eb, .int .i64 ec, .string data] ∧ Fr [b] w (wr.setCell ⟨b, 8, none⟩ (.int .i64 v)).drew ∧ w.heap.size + 1 ≤ (wr.setCell ⟨b, 8, none⟩ (.int .i64 v)).drew.heap.size := by
                rintro v rfl
                refine ⟨?_, (hxk.ne (by simp; omega) _).drew, (hfk.setCell (by simp) _).drew, by simpa using hsk⟩
                rw [HN.out]
                exact (HP.out.set' rfl).drew
              have HD := Lib.hid hdone
              clear hpk hdone HN
              go_wp2_with (go_at_call 41; refine HI.out.mono ?_; rintro e w' ⟨rfl, rfl⟩)
              go_still_tail 14, (by kernel_rfl)
              go_wp2
              all_goals
                go_roundw
                case rel => exact ⟨4, by omega, rfl, HD.out _ (by omega)⟩
                case measure => simp [intOf]
          · have hz := HZ.out
            go_wp2
            go_ret
            unfold RBPost
            rw [HR.out]
            exact ⟨⟨_, rfl, .inr ⟨_, toldEv 1 u eb, rfl, rfl, Pt.newA _ _ _, by omega⟩⟩, hpk.alloc _, hfk.alloc _⟩
end
end Go.Proofs.YtkkmjjddalpocaaDoor
