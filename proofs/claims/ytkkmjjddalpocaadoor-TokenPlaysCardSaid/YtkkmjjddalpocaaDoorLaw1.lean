import Derived.Test.YtkkmjjddalpocaaDoorPur1
namespace Go.Proofs.YtkkmjjddalpocaaDoor
open Go.RowKit
set_option linter.unusedVariables false
set_option linter.unusedSimpArgs false
set_option maxHeartbeats 2000000
theorem events_nil (w : World) : Calls Tryd.prog 14 #[.slice none 0 0, .slice none 0 0] w fun e w' => e = .returned (.bool true) ∧ ∃ k, w' = w.drewN k := by
  go_enter Tryd.func14, Tryd.ntmps14
  go_wp2
  refine wp_loop_once ?_
  go_wp2
  go_ret
  exact ⟨rfl, 0, rfl⟩
theorem events_one (B1 B2 : Nat) (e : Ev) (w : World) (h1 : Pt w B1 TEv e.cells) (h2 : Pt w B2 TEv e.cells) : Calls Tryd.prog 14 #[.slice (some ⟨B1, 0, none⟩) 1 1, .slice (some ⟨B2, 0, none⟩) 1 1] w fun e w' => e = .returned (.bool true) ∧ ∃ k, w' = w.drewN k := by
  have c1 := h1.cell
  have c2 := h2.cell
  obtain ⟨way, kind, a, b, c, data⟩ := e
  simp only [Ev.cells] at c1 c2
  clear h1 h2
  have h01 : (0 : Int) < 1 := by omega
  go_enter Tryd.func14, Tryd.ntmps14
  go_wp2
  refine wp_loop_rounds 2 ?_
  rw [rounds_succ]
  go_wp2_with fail
  go_quiet (fail)
  go_wp2_with fail
  rw [rounds_succ]
  go_wp2
  go_ret
  exact ⟨rfl, _, rfl⟩
theorem events_same (B1 B2 : Nat) (v1 v2 : Value) (l : List Ev) (w : World) (h1 : EvRes B1 w v1 l) (h2 : EvRes B2 w v2 l) : Calls Tryd.prog 14 #[v1, v2] w fun e w' => e = .returned (.bool true) ∧ ∃ k, w' = w.drewN k := by
  rcases h1 with ⟨rfl, rfl⟩ | ⟨C1, e1, rfl, rfl, p1, _⟩
  · rcases h2 with ⟨rfl, _⟩ | ⟨_, _, _, h, _⟩
    · exact events_nil w
    · cases h
  · rcases h2 with ⟨_, h⟩ | ⟨C2, e2, rfl, h, p2, _⟩
    · cases h
    · cases h
      exact events_one C1 C2 _ w p1 p2
theorem Pt.drewN {w : World} {b : Nat} {T : TypeId} {cs : List Value} (h : Pt w b T cs) (n : Nat) : Pt (w.drewN n) b T cs := h
theorem same_any (b b2 : Nat) (s : TS) (w : World) (hp : Pt w b TSide s.cells) (hq : Pt w b2 RSide (toRS s).cells) (hi : Inv s) :
    Calls Tryd.prog 19 #[.pointer (some ⟨b, 0, none⟩), .pointer (some ⟨b2, 0, none⟩)] w fun e w' => e = .returned (.bool true) ∧ ∃ k, w' = w.drewN k := by
  have hmade : (toRS s).made = true := hi.1
  obtain ⟨hm1, hm2⟩ := mine_sim s hi
  have M1 := tMine_any b s w hp
  have M2 := rMine_any b2 _ w hq
  have T1 := tTheirs_any b s w hp
  have T2 := rTheirs_any b2 _ w hq
  rw [hi.1] at M1 T1
  rw [← hm1] at M2
  rw [← hm2] at T2
  simp only [if_true] at M1 T1
  obtain ⟨m, hm⟩ : ∃ m, s.mine = m := ⟨_, rfl⟩
  obtain ⟨t, ht⟩ : ∃ t, s.theirs = t := ⟨_, rfl⟩
  rw [hm] at M1 M2
  rw [ht] at T1 T2
  replace M1 := Lib.hid M1; replace M2 := Lib.hid M2; replace T1 := Lib.hid T1; replace T2 := Lib.hid T2
  have HA : Hid (∀ (i : Int) (k : Nat), (Calls Tryd.prog 21 #[.pointer (some ⟨b, 0, none⟩), .int .i64 i] (w.drewN k) fun e w' => e = .returned (.tuple #[.int .i64 (askedP s i).1, .int .i64 (askedP s i).2]) ∧ ∃ j, w' = w.drewN j)
      ∧ (Calls Tryd.prog 35 #[.pointer (some ⟨b2, 0, none⟩), .int .i64 i] (w.drewN k) fun e w' => e = .returned (.tuple #[.int .i64 (askedP s i).1, .int .i64 (askedP s i).2]) ∧ w.drewN k = w')) := by
    intro i k
    refine ⟨(tAsked_any b s i _ (hp.drewN k)).mono fun e w' ⟨h1, j, h2⟩ => ⟨h1, _, h2.trans (World.drewN_drewN _ _ _)⟩, ?_⟩
    rw [asked_sim s hi i]
    exact rAsked_any b2 _ i _ (hq.drewN k) hmade
  have HM : Hid (∀ (i : Int) (k : Nat), (Calls Tryd.prog 22 #[.pointer (some ⟨b, 0, none⟩), .int .i64 i] (w.drewN k) fun e w' => e = .returned (.bool (mayP s i)) ∧ ∃ j, w' = w.drewN j)
      ∧ (Calls Tryd.prog 36 #[.pointer (some ⟨b2, 0, none⟩), .int .i64 i] (w.drewN k) fun e w' => e = .returned (.bool (mayP s i)) ∧ w.drewN k = w')) := by
    intro i k
    refine ⟨(tMay_any b s i _ (hp.drewN k)).mono fun e w' ⟨h1, j, h2⟩ => ⟨h1, _, h2.trans (World.drewN_drewN _ _ _)⟩, ?_⟩
    rw [may_sim s hi i]
    exact rMay_any b2 _ i _ (hq.drewN k) hmade
  clear hp hq hm1 hm2 hm ht hmade
  go_enter Tryd.func19, Tryd.ntmps19
  go_wp2_with fail
  refine M1.out.mono ?_
  rintro e w' ⟨rfl, rfl⟩
  go_wp2_with fail
  refine M2.out.mono ?_
  rintro e w' ⟨rfl, rfl⟩
  go_wp2_with fail
  refine T1.out.mono ?_
  rintro e w' ⟨rfl, rfl⟩
  go_wp2_with fail
  refine T2.out.mono ?_
  rintro e w' ⟨rfl, rfl⟩
  go_wp2_with fail
  go_loopw [5] (fun v wr => ∃ (i : Int) (k : Nat), -1 ≤ i ∧ i ≤ 5 ∧ v = .int .i64 i ∧ wr = w.drewN k) (fun v _ => (5 - intOf v).toNat)
  case atStart => exact ⟨-1, 0, by omega, by omega, rfl, rfl⟩
  case round =>
    obtain ⟨i, k, hi0, hi1, rfl, rfl⟩ := hrel
    obtain ⟨A1, A2⟩ := HA.out i k
    obtain ⟨x, hx⟩ : ∃ x, (askedP s i).1 = x := ⟨_, rfl⟩
    obtain ⟨y, hy⟩ : ∃ y, (askedP s i).2 = y := ⟨_, rfl⟩
    by_cases hlt : i ≤ 4
    · rw [hx, hy] at A1
      replace A1 := Lib.hid A1
      clear A2
      go_wp2_with fail
      refine A1.out.mono ?_
      rintro e w' ⟨rfl, j, rfl⟩
      have A2 := (HA.out i j).2
      rw [hx, hy] at A2
      replace A2 := Lib.hid A2
      clear hx hy
      go_wp2_with fail
      refine A2.out.mono ?_
      rintro e w' ⟨rfl, rfl⟩
      go_wp2
      go_roundw
      case rel => exact ⟨i + 1, j, by omega, by omega, by go_num, rfl⟩
      case measure => simp [intOf]; omega
    · clear A1 A2 hx hy
      go_wp2_with fail
      go_loopw [10] (fun v wr => ∃ (i : Int) (k : Nat), -1 ≤ i ∧ i ≤ 17 ∧ v = .int .i64 i ∧ wr = w.drewN k) (fun v _ => (17 - intOf v).toNat)
      case atStart => exact ⟨-1, k, by omega, by omega, rfl, rfl⟩
      case round =>
        obtain ⟨i, k, hi0, hi1, rfl, rfl⟩ := hrel
        obtain ⟨A1, A2⟩ := HM.out i k
        obtain ⟨x, hx⟩ : ∃ x, mayP s i = x := ⟨_, rfl⟩
        by_cases hlt : i ≤ 16
        · rw [hx] at A1
          replace A1 := Lib.hid A1
          clear A2
          go_wp2_with fail
          refine A1.out.mono ?_
          rintro e w' ⟨rfl, j, rfl⟩
          have A2 := (HM.out i j).2
          rw [hx] at A2
          replace A2 := Lib.hid A2
          clear hx
          cases x
          all_goals
            go_wp2_with fail
            refine A2.out.mono ?_
            rintro e w' ⟨rfl, rfl⟩
            go_wp2
            go_roundw
            case rel => exact ⟨i + 1, j, by omega, by omega, by go_num, rfl⟩
            case measure => simp [intOf]; omega
        · clear A1 A2 hx
          go_wp2
          go_ret
          exact ⟨rfl, _, rfl⟩
end Go.Proofs.YtkkmjjddalpocaaDoor
