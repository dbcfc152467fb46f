import Derived.Test.YtkkmjjddalpocaaDoorTok6
import Derived.Laws.BitsLemmas
namespace Go.Proofs.YtkkmjjddalpocaaDoor
open Go.RowKit
set_option linter.unusedVariables false
set_option maxHeartbeats 800000
/-! ### On of the program's side: what is refused -/
def onFine (e : Ev) : Bool :=
  if e.way = 0 then
    if e.kind = 1 then decide (1 ≤ e.a) && decide (e.a ≤ 15) && decide (0 ≤ e.b) && decide (e.b ≤ 9)
    else if e.kind = 2 then decide (1 ≤ e.a) && decide (e.a ≤ 15)
    else decide (e.kind = 3)
  else if e.way = 1 then
    if e.kind = 1 then decide (0 ≤ e.a) && decide (e.a ≤ 15) && decide (0 ≤ e.b) && decide (e.b ≤ 9)
    else if e.kind = 2 then decide (0 ≤ e.a) && decide (e.a ≤ 15)
    else false
  else false
set_option maxRecDepth 100000 in
set_option maxHeartbeats 4000000 in
theorem on_bad (b : Nat) (s : TS) (e : Ev) (w : World) (hp : Pt w b TSide s.cells) (hm : s.made = true) (h : onFine e = false) :
    Calls Tryd.prog 13 #[.pointer (some ⟨b, 0, none⟩), e.val] w fun r w' => r = .returned (.tuple #[.slice none 0 0, .int .i64 1]) ∧ Pt w' b TSide s.cells ∧ Fr [b] w w' := by
  have HN : Hid (Calls Tryd.prog 26 #[.pointer (some ⟨b, 0, none⟩)] (w.alloc (.cells #[.int .i64 e.way, .int .i64 e.kind, .int .i64 e.a, .int .i64 e.b, .int .i64 e.c, .string e.data] TEv)) fun r w' => r = .returned (.bool false) ∧ (w.alloc (.cells #[.int .i64 e.way, .int .i64 e.kind, .int .i64 e.a, .int .i64 e.b, .int .i64 e.c, .string e.data] TEv)) = w') := by
    have := tNone_any b s _ (hp.alloc (.cells #[.int .i64 e.way, .int .i64 e.kind, .int .i64 e.a, .int .i64 e.b, .int .i64 e.c, .string e.data] TEv))
    rw [hm] at this
    exact Lib.hid this
  have HP := Lib.hid hp
  obtain ⟨way, kind, ea, eb, ec, data⟩ := e
  dsimp only [Ev.val] at HN ⊢
  unfold onFine at h
  dsimp only at h
  clear hp hm
  by_cases hw0 : way = 0
  · subst hw0
    by_cases hk1 : kind = 1
    · subst hk1
      by_cases ha0 : ea < 0
      · clear h
        go_enter Tryd.func13, Tryd.ntmps13
        go_wp2_with fail
        refine HN.out.mono ?_
        rintro e w' ⟨rfl, rfl⟩
        go_wp2
        all_goals
          go_ret2
          exact ⟨rfl, HP.out.alloc _, (Fr.refl _ _).alloc _⟩
      · skip
        by_cases ha1 : ea = 0
        · subst ha1
          clear h
          go_enter Tryd.func13, Tryd.ntmps13
          go_wp2_with fail
          refine HN.out.mono ?_
          rintro e w' ⟨rfl, rfl⟩
          go_wp2
          all_goals
            go_ret2
            exact ⟨rfl, HP.out.alloc _, (Fr.refl _ _).alloc _⟩
        · skip
          by_cases ha2 : 15 < ea
          · clear h
            go_enter Tryd.func13, Tryd.ntmps13
            go_wp2_with fail
            refine HN.out.mono ?_
            rintro e w' ⟨rfl, rfl⟩
            go_wp2
            all_goals
              go_ret2
              exact ⟨rfl, HP.out.alloc _, (Fr.refl _ _).alloc _⟩
          · skip
            by_cases hb0 : eb < 0
            · clear h
              go_enter Tryd.func13, Tryd.ntmps13
              go_wp2_with fail
              refine HN.out.mono ?_
              rintro e w' ⟨rfl, rfl⟩
              go_wp2
              all_goals
                go_ret2
                exact ⟨rfl, HP.out.alloc _, (Fr.refl _ _).alloc _⟩
            · skip
              by_cases hb1 : 9 < eb
              · clear h
                go_enter Tryd.func13, Tryd.ntmps13
                go_wp2_with fail
                refine HN.out.mono ?_
                rintro e w' ⟨rfl, rfl⟩
                go_wp2
                all_goals
                  go_ret2
                  exact ⟨rfl, HP.out.alloc _, (Fr.refl _ _).alloc _⟩
              · skip
                exfalso
                simp at h
                omega
    · by_cases hk2 : kind = 2
      · subst hk2
        by_cases ha0 : ea < 0
        · clear h
          go_enter Tryd.func13, Tryd.ntmps13
          go_wp2_with fail
          refine HN.out.mono ?_
          rintro e w' ⟨rfl, rfl⟩
          go_wp2
          all_goals
            go_ret2
            exact ⟨rfl, HP.out.alloc _, (Fr.refl _ _).alloc _⟩
        · skip
          by_cases ha1 : ea = 0
          · subst ha1
            clear h
            go_enter Tryd.func13, Tryd.ntmps13
            go_wp2_with fail
            refine HN.out.mono ?_
            rintro e w' ⟨rfl, rfl⟩
            go_wp2
            all_goals
              go_ret2
              exact ⟨rfl, HP.out.alloc _, (Fr.refl _ _).alloc _⟩
          · skip
            by_cases ha2 : 15 < ea
            · clear h
              go_enter Tryd.func13, Tryd.ntmps13
              go_wp2_with fail
              refine HN.out.mono ?_
              rintro e w' ⟨rfl, rfl⟩
              go_wp2
              all_goals
                go_ret2
                exact ⟨rfl, HP.out.alloc _, (Fr.refl _ _).alloc _⟩
            · skip
              exfalso
              simp at h
              omega
      · by_cases hk3 : kind = 3
        · exfalso
          subst hk3
          simp at h
        · have k1 : (kind == 1) = false := by simpa using hk1
          have k1n : (kind != 1) = true := by simpa using hk1
          have k2 : (kind == 2) = false := by simpa using hk2
          have k2n : (kind != 2) = true := by simpa using hk2
          have k3 : (kind == 3) = false := by simpa using hk3
          have k3n : (kind != 3) = true := by simpa using hk3
          clear h
          go_enter Tryd.func13, Tryd.ntmps13
          go_wp2_with fail
          refine HN.out.mono ?_
          rintro e w' ⟨rfl, rfl⟩
          go_wp2
          all_goals
            go_ret2
            exact ⟨rfl, HP.out.alloc _, (Fr.refl _ _).alloc _⟩
  · by_cases hw1 : way = 1
    · subst hw1
      by_cases hk1 : kind = 1
      · subst hk1
        by_cases ha0 : ea < 0
        · clear h
          go_enter Tryd.func13, Tryd.ntmps13
          go_wp2_with fail
          refine HN.out.mono ?_
          rintro e w' ⟨rfl, rfl⟩
          go_wp2
          all_goals
            go_ret2
            exact ⟨rfl, HP.out.alloc _, (Fr.refl _ _).alloc _⟩
        · skip
          by_cases ha2 : 15 < ea
          · clear h
            go_enter Tryd.func13, Tryd.ntmps13
            go_wp2_with fail
            refine HN.out.mono ?_
            rintro e w' ⟨rfl, rfl⟩
            go_wp2
            all_goals
              go_ret2
              exact ⟨rfl, HP.out.alloc _, (Fr.refl _ _).alloc _⟩
          · skip
            by_cases hb0 : eb < 0
            · clear h
              go_enter Tryd.func13, Tryd.ntmps13
              go_wp2_with fail
              refine HN.out.mono ?_
              rintro e w' ⟨rfl, rfl⟩
              go_wp2
              all_goals
                go_ret2
                exact ⟨rfl, HP.out.alloc _, (Fr.refl _ _).alloc _⟩
            · skip
              by_cases hb1 : 9 < eb
              · clear h
                go_enter Tryd.func13, Tryd.ntmps13
                go_wp2_with fail
                refine HN.out.mono ?_
                rintro e w' ⟨rfl, rfl⟩
                go_wp2
                all_goals
                  go_ret2
                  exact ⟨rfl, HP.out.alloc _, (Fr.refl _ _).alloc _⟩
              · skip
                exfalso
                simp at h
                omega
      · by_cases hk2 : kind = 2
        · subst hk2
          by_cases ha0 : ea < 0
          · clear h
            go_enter Tryd.func13, Tryd.ntmps13
            go_wp2_with fail
            refine HN.out.mono ?_
            rintro e w' ⟨rfl, rfl⟩
            go_wp2
            all_goals
              go_ret2
              exact ⟨rfl, HP.out.alloc _, (Fr.refl _ _).alloc _⟩
          · skip
            by_cases ha2 : 15 < ea
            · clear h
              go_enter Tryd.func13, Tryd.ntmps13
              go_wp2_with fail
              refine HN.out.mono ?_
              rintro e w' ⟨rfl, rfl⟩
              go_wp2
              all_goals
                go_ret2
                exact ⟨rfl, HP.out.alloc _, (Fr.refl _ _).alloc _⟩
            · skip
              exfalso
              simp at h
              omega
        · have k1 : (kind == 1) = false := by simpa using hk1
          have k1n : (kind != 1) = true := by simpa using hk1
          have k2 : (kind == 2) = false := by simpa using hk2
          have k2n : (kind != 2) = true := by simpa using hk2
          have w10 : ((1 : Int) == 0) = false := rfl
          clear h
          go_enter Tryd.func13, Tryd.ntmps13
          go_wp2_with fail
          refine HN.out.mono ?_
          rintro e w' ⟨rfl, rfl⟩
          go_wp2
          all_goals
            go_ret2
            exact ⟨rfl, HP.out.alloc _, (Fr.refl _ _).alloc _⟩
    · have w0 : (way != 0) = true := by simpa using hw0
      have w1 : (way != 1) = true := by simpa using hw1
      clear h
      go_enter Tryd.func13, Tryd.ntmps13
      go_wp2_with fail
      refine HN.out.mono ?_
      rintro e w' ⟨rfl, rfl⟩
      go_wp2
      all_goals
        go_ret2
        exact ⟨rfl, HP.out.alloc _, (Fr.refl _ _).alloc _⟩
end Go.Proofs.YtkkmjjddalpocaaDoor
