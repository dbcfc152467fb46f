import Derived.Test.YtkkmjjddalpocaaDoorTok8
namespace Go.Proofs.YtkkmjjddalpocaaDoor
open Go.RowKit
set_option linter.unusedVariables false
set_option maxHeartbeats 1000000
/-! ### The side of the reference -/
structure RS where
  made : Bool
  h0 : Int
  h1 : Int
  h2 : Int
  h3 : Int
  a0 : Int
  a1 : Int
  a2 : Int
  a3 : Int
def RS.cells (s : RS) : List Value := [.bool s.made, .int .i64 s.h0, .int .i64 s.h1, .int .i64 s.h2, .int .i64 s.h3, .int .i64 s.a0, .int .i64 s.a1, .int .i64 s.a2, .int .i64 s.a3]
abbrev RSide : TypeId := 62
def inB (s : Int) (t : Nat) : Bool := s / 2 ^ t % 2 == 1
theorem in_any (s : Int) (t : Nat) (w : World) (h0 : 0 ≤ s) (h1 : s ≤ 15) (ht : t ≤ 3) :
    Calls Tryd.prog 41 #[.int .i64 s, .int .i64 t] w fun e w' => e = .returned (.bool (inB s t)) ∧ w = w' := by
  go_enter Tryd.func41, Tryd.ntmps41
  go_wp2
  go_loop [0, 5] (fun v i => ∃ k : Nat, k ≤ t ∧ i = .int .i64 k ∧ v = .int .i64 (s / 2 ^ k)) (fun _ i => t - (intOf i).toNat)
  case atStart => exact ⟨0, by omega, rfl, by simp⟩
  case round =>
    obtain ⟨k, hk, rfl, rfl⟩ := hrel
    have hd : s / 2 ^ (k + 1) = s / 2 ^ k / 2 := by rw [Int.pow_succ, Int.ediv_ediv_of_nonneg (Int.pow_nonneg (by omega))]
    have hp : 0 ≤ s / 2 ^ k := Int.ediv_nonneg h0 (Int.pow_nonneg (by omega))
    have hl : s / 2 ^ k ≤ 15 := by
      have : s / 2 ^ k ≤ s := Int.ediv_le_self _ h0
      omega
    have HD := Lib.hid hd
    clear hd
    by_cases hlt : k < t
    · obtain ⟨x, hx⟩ : ∃ x, s / 2 ^ k = x := ⟨_, rfl⟩
      rw [hx] at hp hl ⊢
      have HX := Lib.hid hx
      clear hx
      go_wp2
      go_round
      case rel => exact ⟨k + 1, by omega, by go_num, by rw [HD.out, HX.out]⟩
      case measure => simp [intOf]; omega
    · have hkt : k = t := by omega
      subst hkt
      obtain ⟨x, hx⟩ : ∃ x, s / 2 ^ k = x := ⟨_, rfl⟩
      rw [hx] at hp hl ⊢
      have HX := Lib.hid hx
      clear hx
      go_wp2
      go_ret
      exact ⟨ret_bool (by unfold inB; rw [HX.out]), rfl⟩
def bt01 (b : Bool) : Int := if b then 1 else 0
def RS.setV (s : RS) (v : Int) : Int := 8 * bt01 (s.h3 == v) + 4 * bt01 (s.h2 == v) + 2 * bt01 (s.h1 == v) + bt01 (s.h0 == v)
def RS.part (s : RS) (v : Int) (i : Int) : Int :=
  if i = 3 then 0 else if i = 2 then bt01 (s.h3 == v) else if i = 1 then 2 * bt01 (s.h3 == v) + bt01 (s.h2 == v) else if i = 0 then 4 * bt01 (s.h3 == v) + 2 * bt01 (s.h2 == v) + bt01 (s.h1 == v) else s.setV v
theorem bt01_in (b : Bool) : 0 ≤ bt01 b ∧ bt01 b ≤ 1 := by cases b <;> simp [bt01]
set_option maxHeartbeats 2000000 in
theorem rset_any (b : Nat) (s : RS) (v : Int) (w : World) (hp : Pt w b RSide s.cells) :
    Calls Tryd.prog 42 #[.pointer (some ⟨b, 0, none⟩), .int .i64 v] w fun e w' => e = .returned (.int .i64 (s.setV v)) ∧ w = w' := by
  have hs := s
  have hc := hp.cell
  simp only [RS.cells] at hc
  clear hp
  go_enter Tryd.func42, Tryd.ntmps42
  go_wp2
  go_loop [5, 6] (fun n i => ∃ k : Int, -1 ≤ k ∧ k ≤ 3 ∧ i = .int .i64 k ∧ n = .int .i64 (s.part v k)) (fun _ i => (intOf i + 1).toNat)
  case atStart => exact ⟨3, by omega, by omega, rfl, rfl⟩
  case round =>
    obtain ⟨k, hk0, hk1, rfl, rfl⟩ := hrel
    have i3 := bt01_in (s.h3 == v)
    have i2 := bt01_in (s.h2 == v)
    have i1 := bt01_in (s.h1 == v)
    have i0 := bt01_in (s.h0 == v)
    have hk : k = 3 ∨ k = 2 ∨ k = 1 ∨ k = 0 ∨ k = -1 := by omega
    clear hk0 hk1
    rcases hk with rfl | rfl | rfl | rfl | rfl
    · have hn : 0 ≤ s.part v 3 ∧ s.part v 3 ≤ 15 := by simp only [RS.part]; simp; try omega
      have hn' : s.part v 2 = 2 * s.part v 3 + bt01 (s.h3 == v) := by simp only [RS.part, RS.setV]; simp; try omega
      obtain ⟨n, hnn⟩ : ∃ n, s.part v 3 = n := ⟨_, rfl⟩
      rw [hnn] at hn hn' ⊢
      obtain ⟨n0, n1⟩ := hn
      have HN := Lib.hid hn'
      clear hn' hnn i3 i2 i1 i0
      rcases hq : (s.h3 == v) with _ | _
      all_goals
        rw [hq] at HN
        go_wp2
        go_round
        case rel => exact ⟨3-1, by omega, by omega, rfl, by show _ = Value.int .i64 (s.part v 2); rw [HN.out]; simp [bt01]⟩
        case measure => simp [intOf]
    · have hn : 0 ≤ s.part v 2 ∧ s.part v 2 ≤ 15 := by simp only [RS.part]; simp; try omega
      have hn' : s.part v 1 = 2 * s.part v 2 + bt01 (s.h2 == v) := by simp only [RS.part, RS.setV]; simp; try omega
      obtain ⟨n, hnn⟩ : ∃ n, s.part v 2 = n := ⟨_, rfl⟩
      rw [hnn] at hn hn' ⊢
      obtain ⟨n0, n1⟩ := hn
      have HN := Lib.hid hn'
      clear hn' hnn i3 i2 i1 i0
      rcases hq : (s.h2 == v) with _ | _
      all_goals
        rw [hq] at HN
        go_wp2
        go_round
        case rel => exact ⟨2-1, by omega, by omega, rfl, by show _ = Value.int .i64 (s.part v 1); rw [HN.out]; simp [bt01]⟩
        case measure => simp [intOf]
    · have hn : 0 ≤ s.part v 1 ∧ s.part v 1 ≤ 15 := by simp only [RS.part]; simp; try omega
      have hn' : s.part v 0 = 2 * s.part v 1 + bt01 (s.h1 == v) := by simp only [RS.part, RS.setV]; simp; try omega
      obtain ⟨n, hnn⟩ : ∃ n, s.part v 1 = n := ⟨_, rfl⟩
      rw [hnn] at hn hn' ⊢
      obtain ⟨n0, n1⟩ := hn
      have HN := Lib.hid hn'
      clear hn' hnn i3 i2 i1 i0
      rcases hq : (s.h1 == v) with _ | _
      all_goals
        rw [hq] at HN
        go_wp2
        go_round
        case rel => exact ⟨1-1, by omega, by omega, rfl, by show _ = Value.int .i64 (s.part v 0); rw [HN.out]; simp [bt01]⟩
        case measure => simp [intOf]
    · have hn : 0 ≤ s.part v 0 ∧ s.part v 0 ≤ 15 := by simp only [RS.part]; simp; try omega
      have hn' : s.part v (-1) = 2 * s.part v 0 + bt01 (s.h0 == v) := by simp only [RS.part, RS.setV]; simp; try omega
      obtain ⟨n, hnn⟩ : ∃ n, s.part v 0 = n := ⟨_, rfl⟩
      rw [hnn] at hn hn' ⊢
      obtain ⟨n0, n1⟩ := hn
      have HN := Lib.hid hn'
      clear hn' hnn i3 i2 i1 i0
      rcases hq : (s.h0 == v) with _ | _
      all_goals
        rw [hq] at HN
        go_wp2
        go_round
        case rel => exact ⟨0-1, by omega, by omega, rfl, by show _ = Value.int .i64 (s.part v (-1)); rw [HN.out]; simp [bt01]⟩
        case measure => simp [intOf]
    · have hn : s.part v (-1) = s.setV v := by simp [RS.part]
      rw [hn]
      have HN := Lib.hid hn
      clear hn i3 i2 i1 i0
      go_wp2
      go_ret
      exact ⟨rfl, rfl⟩
def RS.allB (s : RS) (set v : Int) : Bool := (!inB set 0 || s.h0 == v) && (!inB set 1 || s.h1 == v) && (!inB set 2 || s.h2 == v) && (!inB set 3 || s.h3 == v)
def RS.allP (s : RS) (set v : Int) (k : Nat) : Prop := (0 < k → (!inB set 0 || s.h0 == v) = true) ∧ (1 < k → (!inB set 1 || s.h1 == v) = true) ∧ (2 < k → (!inB set 2 || s.h2 == v) = true) ∧ (3 < k → (!inB set 3 || s.h3 == v) = true)
set_option maxHeartbeats 2000000 in
theorem rall_any (b : Nat) (s : RS) (set v : Int) (w : World) (hp : Pt w b RSide s.cells) (h0 : 0 ≤ set) (h1 : set ≤ 15) :
    Calls Tryd.prog 43 #[.pointer (some ⟨b, 0, none⟩), .int .i64 set, .int .i64 v] w fun e w' => e = .returned (.bool (s.allB set v)) ∧ w = w' := by
  have hc := hp.cell
  simp only [RS.cells] at hc
  clear hp
  go_enter Tryd.func43, Tryd.ntmps43
  go_wp2
  go_loop [7] (fun i => ∃ k : Nat, k ≤ 4 ∧ i = .int .i64 k ∧ Hid (s.allP set v k)) (fun i => 4 - (intOf i).toNat)
  case atStart => exact ⟨0, by omega, rfl, by unfold Hid RS.allP; simp⟩
  case round =>
    obtain ⟨k, hk0, rfl, HA⟩ := hrel
    have hk : k = 0 ∨ k = 1 ∨ k = 2 ∨ k = 3 ∨ k = 4 := by omega
    clear hk0
    rcases hk with rfl | rfl | rfl | rfl | rfl
    · have HI := Lib.hid (in_any set 0 w h0 h1 (by omega))
      rcases hq : inB set 0 with _ | _
      · rw [hq] at HI
        go_wp2_with (go_at_call 41; refine HI.out.mono ?_; rintro e w' ⟨rfl, rfl⟩)
        go_round
        case rel => exact ⟨1, by omega, rfl, by have := HA.out; unfold Hid RS.allP at *; simp_all⟩
        case measure => simp [intOf]
      · rw [hq] at HI
        rcases hv : (s.h0 == v) with _ | _
        · have hv' : (s.h0 != v) = true := by rw [bne, hv]; rfl
          go_wp2_with (go_at_call 41; refine HI.out.mono ?_; rintro e w' ⟨rfl, rfl⟩)
          go_ret
          exact ⟨ret_bool (by unfold RS.allB; rw [hq, hv]; simp), rfl⟩
        · have hv' : (s.h0 != v) = false := by rw [bne, hv]; rfl
          go_wp2_with (go_at_call 41; refine HI.out.mono ?_; rintro e w' ⟨rfl, rfl⟩)
          go_round
          case rel => exact ⟨1, by omega, rfl, by have := HA.out; unfold Hid RS.allP at *; simp_all⟩
          case measure => simp [intOf]
    · have HI := Lib.hid (in_any set 1 w h0 h1 (by omega))
      rcases hq : inB set 1 with _ | _
      · rw [hq] at HI
        go_wp2_with (go_at_call 41; refine HI.out.mono ?_; rintro e w' ⟨rfl, rfl⟩)
        go_round
        case rel => exact ⟨2, by omega, rfl, by have := HA.out; unfold Hid RS.allP at *; simp_all⟩
        case measure => simp [intOf]
      · rw [hq] at HI
        rcases hv : (s.h1 == v) with _ | _
        · have hv' : (s.h1 != v) = true := by rw [bne, hv]; rfl
          go_wp2_with (go_at_call 41; refine HI.out.mono ?_; rintro e w' ⟨rfl, rfl⟩)
          go_ret
          exact ⟨ret_bool (by unfold RS.allB; rw [hq, hv]; simp), rfl⟩
        · have hv' : (s.h1 != v) = false := by rw [bne, hv]; rfl
          go_wp2_with (go_at_call 41; refine HI.out.mono ?_; rintro e w' ⟨rfl, rfl⟩)
          go_round
          case rel => exact ⟨2, by omega, rfl, by have := HA.out; unfold Hid RS.allP at *; simp_all⟩
          case measure => simp [intOf]
    · have HI := Lib.hid (in_any set 2 w h0 h1 (by omega))
      rcases hq : inB set 2 with _ | _
      · rw [hq] at HI
        go_wp2_with (go_at_call 41; refine HI.out.mono ?_; rintro e w' ⟨rfl, rfl⟩)
        go_round
        case rel => exact ⟨3, by omega, rfl, by have := HA.out; unfold Hid RS.allP at *; simp_all⟩
        case measure => simp [intOf]
      · rw [hq] at HI
        rcases hv : (s.h2 == v) with _ | _
        · have hv' : (s.h2 != v) = true := by rw [bne, hv]; rfl
          go_wp2_with (go_at_call 41; refine HI.out.mono ?_; rintro e w' ⟨rfl, rfl⟩)
          go_ret
          exact ⟨ret_bool (by unfold RS.allB; rw [hq, hv]; simp), rfl⟩
        · have hv' : (s.h2 != v) = false := by rw [bne, hv]; rfl
          go_wp2_with (go_at_call 41; refine HI.out.mono ?_; rintro e w' ⟨rfl, rfl⟩)
          go_round
          case rel => exact ⟨3, by omega, rfl, by have := HA.out; unfold Hid RS.allP at *; simp_all⟩
          case measure => simp [intOf]
    · have HI := Lib.hid (in_any set 3 w h0 h1 (by omega))
      rcases hq : inB set 3 with _ | _
      · rw [hq] at HI
        go_wp2_with (go_at_call 41; refine HI.out.mono ?_; rintro e w' ⟨rfl, rfl⟩)
        go_round
        case rel => exact ⟨4, by omega, rfl, by have := HA.out; unfold Hid RS.allP at *; simp_all⟩
        case measure => simp [intOf]
      · rw [hq] at HI
        rcases hv : (s.h3 == v) with _ | _
        · have hv' : (s.h3 != v) = true := by rw [bne, hv]; rfl
          go_wp2_with (go_at_call 41; refine HI.out.mono ?_; rintro e w' ⟨rfl, rfl⟩)
          go_ret
          exact ⟨ret_bool (by unfold RS.allB; rw [hq, hv]; simp), rfl⟩
        · have hv' : (s.h3 != v) = false := by rw [bne, hv]; rfl
          go_wp2_with (go_at_call 41; refine HI.out.mono ?_; rintro e w' ⟨rfl, rfl⟩)
          go_round
          case rel => exact ⟨4, by omega, rfl, by have := HA.out; unfold Hid RS.allP at *; simp_all⟩
          case measure => simp [intOf]
    · go_wp2
      go_ret
      exact ⟨ret_bool (by have := HA.out; unfold RS.allP at this; unfold RS.allB; simp_all), rfl⟩
def RS.giveT (s : RS) (set v : Int) (k : Nat) : RS :=
  let s0 := if 0 < k ∧ inB set 0 = true then { s with h0 := v, a0 := -1 } else s
  let s1 := if 1 < k ∧ inB set 1 = true then { s0 with h1 := v, a1 := -1 } else s0
  let s2 := if 2 < k ∧ inB set 2 = true then { s1 with h2 := v, a2 := -1 } else s1
  if 3 < k ∧ inB set 3 = true then { s2 with h3 := v, a3 := -1 } else s2
set_option maxHeartbeats 2000000 in
theorem rgive_any (b : Nat) (s : RS) (set v : Int) (w : World) (hp : Pt w b RSide s.cells) (h0 : 0 ≤ set) (h1 : set ≤ 15) :
    Calls Tryd.prog 44 #[.pointer (some ⟨b, 0, none⟩), .int .i64 set, .int .i64 v] w fun e w' => e = .returned (.tuple #[]) ∧ Pt w' b RSide (s.giveT set v 4).cells ∧ Fr [b] w w' := by
  go_enter Tryd.func44, Tryd.ntmps44
  go_wp2
  go_loopw [6] (fun i wr => ∃ k : Nat, k ≤ 4 ∧ i = .int .i64 k ∧ Pt wr b RSide (s.giveT set v k).cells ∧ Fr [b] w wr) (fun i _ => 4 - (intOf i).toNat)
  case atStart => exact ⟨0, by omega, rfl, by simpa [RS.giveT] using hp, Fr.refl _ _⟩
  case round =>
    obtain ⟨k, hk0, rfl, hpk, hfk⟩ := hrel
    have hk : k = 0 ∨ k = 1 ∨ k = 2 ∨ k = 3 ∨ k = 4 := by omega
    clear hk0 hp
    rcases hk with rfl | rfl | rfl | rfl | rfl
    · have HI := Lib.hid (in_any set 0 wr h0 h1 (by omega))
      obtain ⟨q, hq⟩ : ∃ q, s.giveT set v 0 = q := ⟨_, rfl⟩
      rw [hq] at hpk
      rcases hi : inB set 0 with _ | _
      · have HN : Hid (s.giveT set v 1 = q) := by rw [← hq]; unfold Hid; simp [RS.giveT, hi]
        rw [hi] at HI
        have HP := Lib.hid hpk
        clear hpk hq
        go_wp2_with (go_at_call 41; refine HI.out.mono ?_; rintro e w' ⟨rfl, rfl⟩)
        go_roundw
        case rel => exact ⟨1, by omega, rfl, by rw [HN.out]; exact HP.out, hfk⟩
        case measure => simp [intOf]
      · have HN : Hid (s.giveT set v 1 = { q with h0 := v, a0 := -1 }) := by rw [← hq]; unfold Hid; simp [RS.giveT, hi]
        rw [hi] at HI
        clear hq
        obtain ⟨qm, q0, q1, q2, q3, r0, r1, r2, r3⟩ := q
        have hc := hpk.cell
        have hz := hpk.free
        simp only [RS.cells] at hc
        have HP := Lib.hid hpk
        clear hpk
        go_wp2_with (go_at_call 41; refine HI.out.mono ?_; rintro e w' ⟨rfl, rfl⟩)
        go_roundw
        case rel => exact ⟨1, by omega, rfl, by rw [HN.out]; exact (HP.out.set' rfl).set' rfl, (hfk.setCell (by simp) _).setCell (by simp) _⟩
        case measure => simp [intOf]
    · have HI := Lib.hid (in_any set 1 wr h0 h1 (by omega))
      obtain ⟨q, hq⟩ : ∃ q, s.giveT set v 1 = q := ⟨_, rfl⟩
      rw [hq] at hpk
      rcases hi : inB set 1 with _ | _
      · have HN : Hid (s.giveT set v 2 = q) := by rw [← hq]; unfold Hid; simp [RS.giveT, hi]
        rw [hi] at HI
        have HP := Lib.hid hpk
        clear hpk hq
        go_wp2_with (go_at_call 41; refine HI.out.mono ?_; rintro e w' ⟨rfl, rfl⟩)
        go_roundw
        case rel => exact ⟨2, by omega, rfl, by rw [HN.out]; exact HP.out, hfk⟩
        case measure => simp [intOf]
      · have HN : Hid (s.giveT set v 2 = { q with h1 := v, a1 := -1 }) := by rw [← hq]; unfold Hid; simp [RS.giveT, hi]
        rw [hi] at HI
        clear hq
        obtain ⟨qm, q0, q1, q2, q3, r0, r1, r2, r3⟩ := q
        have hc := hpk.cell
        have hz := hpk.free
        simp only [RS.cells] at hc
        have HP := Lib.hid hpk
        clear hpk
        go_wp2_with (go_at_call 41; refine HI.out.mono ?_; rintro e w' ⟨rfl, rfl⟩)
        go_roundw
        case rel => exact ⟨2, by omega, rfl, by rw [HN.out]; exact (HP.out.set' rfl).set' rfl, (hfk.setCell (by simp) _).setCell (by simp) _⟩
        case measure => simp [intOf]
    · have HI := Lib.hid (in_any set 2 wr h0 h1 (by omega))
      obtain ⟨q, hq⟩ : ∃ q, s.giveT set v 2 = q := ⟨_, rfl⟩
      rw [hq] at hpk
      rcases hi : inB set 2 with _ | _
      · have HN : Hid (s.giveT set v 3 = q) := by rw [← hq]; unfold Hid; simp [RS.giveT, hi]
        rw [hi] at HI
        have HP := Lib.hid hpk
        clear hpk hq
        go_wp2_with (go_at_call 41; refine HI.out.mono ?_; rintro e w' ⟨rfl, rfl⟩)
        go_roundw
        case rel => exact ⟨3, by omega, rfl, by rw [HN.out]; exact HP.out, hfk⟩
        case measure => simp [intOf]
      · have HN : Hid (s.giveT set v 3 = { q with h2 := v, a2 := -1 }) := by rw [← hq]; unfold Hid; simp [RS.giveT, hi]
        rw [hi] at HI
        clear hq
        obtain ⟨qm, q0, q1, q2, q3, r0, r1, r2, r3⟩ := q
        have hc := hpk.cell
        have hz := hpk.free
        simp only [RS.cells] at hc
        have HP := Lib.hid hpk
        clear hpk
        go_wp2_with (go_at_call 41; refine HI.out.mono ?_; rintro e w' ⟨rfl, rfl⟩)
        go_roundw
        case rel => exact ⟨3, by omega, rfl, by rw [HN.out]; exact (HP.out.set' rfl).set' rfl, (hfk.setCell (by simp) _).setCell (by simp) _⟩
        case measure => simp [intOf]
    · have HI := Lib.hid (in_any set 3 wr h0 h1 (by omega))
      obtain ⟨q, hq⟩ : ∃ q, s.giveT set v 3 = q := ⟨_, rfl⟩
      rw [hq] at hpk
      rcases hi : inB set 3 with _ | _
      · have HN : Hid (s.giveT set v 4 = q) := by rw [← hq]; unfold Hid; simp [RS.giveT, hi]
        rw [hi] at HI
        have HP := Lib.hid hpk
        clear hpk hq
        go_wp2_with (go_at_call 41; refine HI.out.mono ?_; rintro e w' ⟨rfl, rfl⟩)
        go_roundw
        case rel => exact ⟨4, by omega, rfl, by rw [HN.out]; exact HP.out, hfk⟩
        case measure => simp [intOf]
      · have HN : Hid (s.giveT set v 4 = { q with h3 := v, a3 := -1 }) := by rw [← hq]; unfold Hid; simp [RS.giveT, hi]
        rw [hi] at HI
        clear hq
        obtain ⟨qm, q0, q1, q2, q3, r0, r1, r2, r3⟩ := q
        have hc := hpk.cell
        have hz := hpk.free
        simp only [RS.cells] at hc
        have HP := Lib.hid hpk
        clear hpk
        go_wp2_with (go_at_call 41; refine HI.out.mono ?_; rintro e w' ⟨rfl, rfl⟩)
        go_roundw
        case rel => exact ⟨4, by omega, rfl, by rw [HN.out]; exact (HP.out.set' rfl).set' rfl, (hfk.setCell (by simp) _).setCell (by simp) _⟩
        case measure => simp [intOf]
    · go_wp2
      go_end0
      exact ⟨rfl, hpk, hfk⟩
end Go.Proofs.YtkkmjjddalpocaaDoor
