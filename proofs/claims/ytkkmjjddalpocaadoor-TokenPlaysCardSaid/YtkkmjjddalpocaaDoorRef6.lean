import Derived.Test.YtkkmjjddalpocaaDoorRef5
namespace Go.Proofs.YtkkmjjddalpocaaDoor
open Go.RowKit
set_option linter.unusedVariables false
set_option maxRecDepth 100000
set_option maxHeartbeats 8000000
theorem ron_bad (b : Nat) (s : RS) (e : Ev) (w : World) (hp : Pt w b RSide s.cells) (hm : s.made = true) (h : onFine e = false) :
    Calls Tryd.prog 18 #[.pointer (some ⟨b, 0, none⟩), e.val] w fun r w' => r = .returned (.tuple #[.slice none 0 0, .int .i64 1]) ∧ Pt w' b RSide s.cells ∧ Fr [b] w w' := by
  have hlt := hp.lt
  have hlt1 : b < w.heap.size + 1 := by omega
  have hc := hp.cell
  simp only [RS.cells, hm] at hc
  have HP := Lib.hid hp
  obtain ⟨way, kind, ea, eb, ec, data⟩ := e
  dsimp only [Ev.val]
  unfold onFine at h
  dsimp only at h
  clear hp hm
  by_cases hw0 : way = 0
  · subst hw0
    by_cases hk1 : kind = 1
    · subst hk1
      by_cases ha0 : ea < 0
      · clear h
        go_enter Tryd.func18, Tryd.ntmps18
        go_wp2
        all_goals
          go_ret2
          exact ⟨rfl, HP.out.alloc _, (Fr.refl _ _).alloc _⟩
      · skip
        by_cases ha1 : ea = 0
        · subst ha1
          clear h
          go_enter Tryd.func18, Tryd.ntmps18
          go_wp2
          all_goals
            go_ret2
            exact ⟨rfl, HP.out.alloc _, (Fr.refl _ _).alloc _⟩
        · skip
          by_cases ha2 : 15 < ea
          · clear h
            go_enter Tryd.func18, Tryd.ntmps18
            go_wp2
            all_goals
              go_ret2
              exact ⟨rfl, HP.out.alloc _, (Fr.refl _ _).alloc _⟩
          · skip
            by_cases hb0 : eb < 0
            · clear h
              go_enter Tryd.func18, Tryd.ntmps18
              go_wp2
              all_goals
                go_ret2
                exact ⟨rfl, HP.out.alloc _, (Fr.refl _ _).alloc _⟩
            · skip
              by_cases hb1 : 9 < eb
              · clear h
                go_enter Tryd.func18, Tryd.ntmps18
                go_wp2
                all_goals
                  go_ret2
                  exact ⟨rfl, HP.out.alloc _, (Fr.refl _ _).alloc _⟩
              · skip
                exfalso
                simp at h
                omega
    · by_cases hk2 : kind = 2
      · subst hk2
        by_cases ha0 : ea < 0
        · clear h
          go_enter Tryd.func18, Tryd.ntmps18
          go_wp2
          all_goals
            go_ret2
            exact ⟨rfl, HP.out.alloc _, (Fr.refl _ _).alloc _⟩
        · skip
          by_cases ha1 : ea = 0
          · subst ha1
            clear h
            go_enter Tryd.func18, Tryd.ntmps18
            go_wp2
            all_goals
              go_ret2
              exact ⟨rfl, HP.out.alloc _, (Fr.refl _ _).alloc _⟩
          · skip
            by_cases ha2 : 15 < ea
            · clear h
              go_enter Tryd.func18, Tryd.ntmps18
              go_wp2
              all_goals
                go_ret2
                exact ⟨rfl, HP.out.alloc _, (Fr.refl _ _).alloc _⟩
            · skip
              exfalso
              simp at h
              omega
      · by_cases hk3 : kind = 3
        · exfalso
          subst hk3
          simp at h
        · have hkk : kind < 1 ∨ 3 < kind := by omega
          have k1 : (kind == 1) = false := by simpa using hk1
          have k1n : (kind != 1) = true := by simpa using hk1
          have k2 : (kind == 2) = false := by simpa using hk2
          have k2n : (kind != 2) = true := by simpa using hk2
          have k3 : (kind == 3) = false := by simpa using hk3
          have k3n : (kind != 3) = true := by simpa using hk3
          rcases hkk with hkk | hkk
          all_goals
            clear h
            go_enter Tryd.func18, Tryd.ntmps18
            go_wp2
            all_goals
              go_ret2
              exact ⟨rfl, HP.out.alloc _, (Fr.refl _ _).alloc _⟩
  · by_cases hw1 : way = 1
    · subst hw1
      by_cases hk1 : kind = 1
      · subst hk1
        by_cases ha0 : ea < 0
        · clear h
          go_enter Tryd.func18, Tryd.ntmps18
          go_wp2
          all_goals
            go_ret2
            exact ⟨rfl, HP.out.alloc _, (Fr.refl _ _).alloc _⟩
        · skip
          by_cases ha2 : 15 < ea
          · clear h
            go_enter Tryd.func18, Tryd.ntmps18
            go_wp2
            all_goals
              go_ret2
              exact ⟨rfl, HP.out.alloc _, (Fr.refl _ _).alloc _⟩
          · skip
            by_cases hb0 : eb < 0
            · clear h
              go_enter Tryd.func18, Tryd.ntmps18
              go_wp2
              all_goals
                go_ret2
                exact ⟨rfl, HP.out.alloc _, (Fr.refl _ _).alloc _⟩
            · skip
              by_cases hb1 : 9 < eb
              · clear h
                go_enter Tryd.func18, Tryd.ntmps18
                go_wp2
                all_goals
                  go_ret2
                  exact ⟨rfl, HP.out.alloc _, (Fr.refl _ _).alloc _⟩
              · skip
                exfalso
                simp at h
                omega
      · by_cases hk2 : kind = 2
        · subst hk2
          by_cases ha0 : ea < 0
          · clear h
            go_enter Tryd.func18, Tryd.ntmps18
            go_wp2
            all_goals
              go_ret2
              exact ⟨rfl, HP.out.alloc _, (Fr.refl _ _).alloc _⟩
          · skip
            by_cases ha2 : 15 < ea
            · clear h
              go_enter Tryd.func18, Tryd.ntmps18
              go_wp2
              all_goals
                go_ret2
                exact ⟨rfl, HP.out.alloc _, (Fr.refl _ _).alloc _⟩
            · skip
              exfalso
              simp at h
              omega
        · by_cases hk3 : kind = 3
          · subst hk3
            clear h
            go_enter Tryd.func18, Tryd.ntmps18
            go_wp2
            all_goals
              go_ret2
              exact ⟨rfl, HP.out.alloc _, (Fr.refl _ _).alloc _⟩
          · have hkk : kind < 1 ∨ 3 < kind := by omega
            have k1 : (kind == 1) = false := by simpa using hk1
            have k1n : (kind != 1) = true := by simpa using hk1
            have k2 : (kind == 2) = false := by simpa using hk2
            have k2n : (kind != 2) = true := by simpa using hk2
            have k3 : (kind == 3) = false := by simpa using hk3
            have k3n : (kind != 3) = true := by simpa using hk3
            rcases hkk with hkk | hkk
            all_goals
              clear h
              go_enter Tryd.func18, Tryd.ntmps18
              go_wp2
              all_goals
                go_ret2
                exact ⟨rfl, HP.out.alloc _, (Fr.refl _ _).alloc _⟩
    · have w0 : (way != 0) = true := by simpa using hw0
      have w1 : (way != 1) = true := by simpa using hw1
      clear h
      go_enter Tryd.func18, Tryd.ntmps18
      go_wp2
      all_goals
        go_ret2
        exact ⟨rfl, HP.out.alloc _, (Fr.refl _ _).alloc _⟩
def ronSt (s : RS) (e : Ev) : RS × List Ev × Int := if e.way = 1 then ((rbelowP s e).1, (rbelowP s e).2, 0) else ruserP s e
set_option maxHeartbeats 4000000 in
theorem ron_ok (b : Nat) (s : RS) (e : Ev) (w : World) (hp : Pt w b RSide s.cells) (hm : s.made = true) (h : onFine e = true) :
    Calls Tryd.prog 18 #[.pointer (some ⟨b, 0, none⟩), e.val] w (RPost b w (ronSt s e)) := by
  have hlt := hp.lt
  have hlt1 : b < w.heap.size + 1 := by omega
  have hc := hp.cell
  simp only [RS.cells, hm] at hc
  have key : (e.way = 0 ∧ ((e.kind = 1 ∧ 1 ≤ e.a ∧ e.a ≤ 15 ∧ 0 ≤ e.b ∧ e.b ≤ 9) ∨ (e.kind = 2 ∧ 1 ≤ e.a ∧ e.a ≤ 15) ∨ e.kind = 3)) ∨ (e.way = 1 ∧ ((e.kind = 1 ∧ 0 ≤ e.a ∧ e.a ≤ 15 ∧ 0 ≤ e.b ∧ e.b ≤ 9) ∨ (e.kind = 2 ∧ 0 ≤ e.a ∧ e.a ≤ 15))) := by
    unfold onFine at h
    split at h
    · rename_i h1; left; refine ⟨h1, ?_⟩
      split at h
      · rename_i h2; simp at h; omega
      · split at h
        · rename_i h2; simp at h; omega
        · simp at h; omega
    · split at h
      · rename_i h1; right; refine ⟨h1, ?_⟩
        split at h
        · rename_i h2; simp at h; omega
        · split at h
          · rename_i h2; simp at h; omega
          · cases h
      · cases h
  have hfb : Fr [b] w (boxed w e) := (Fr.refl _ _).alloc _
  have hpb : Pt (boxed w e) b RSide s.cells := hp.alloc _
  clear hp h
  rcases key with ⟨hw, hk⟩ | ⟨hw, hk⟩
  · have hR : ronSt s e = ruserP s e := by unfold ronSt; rw [if_neg (by omega)]
    rw [hR]
    have HU : Hid (Calls Tryd.prog 31 #[.pointer (some ⟨b, 0, none⟩), e.val] (boxed w e) (RPost b (boxed w e) (ruserP s e))) := by
      rcases hk with ⟨hk, h1, h2, _⟩ | ⟨hk, h1, h2⟩ | hk
      · exact user1 b s e _ hpb hk (by omega) h2
      · exact user2 b s e _ hpb hk (by omega) h2
      · exact user3 b s e _ hpb hk
    obtain ⟨R, hRR⟩ : ∃ R, ruserP s e = R := ⟨_, rfl⟩
    rw [hRR] at HU ⊢
    clear hRR hR
    have HF := Lib.hid hfb
    clear hfb hpb
    obtain ⟨way, kind, ea, eb, ec, data⟩ := e
    dsimp only [Ev.val] at HU HF hw hk ⊢
    subst hw
    rcases hk with ⟨rfl, h1, h2, h3, h4⟩ | ⟨rfl, h1, h2⟩ | rfl
    · have hz : (ea == 0) = false := by simp; omega
      go_enter Tryd.func18, Tryd.ntmps18
      go_wp2_with fail
      refine HU.out.mono ?_
      rintro r w1 ⟨⟨v, rfl, hv⟩, hq, hf⟩
      go_wp2
      go_ret2
      exact ⟨⟨_, rfl, hv.mono (by simp)⟩, hq, HF.out.trans hf⟩
    · have hz : (ea == 0) = false := by simp; omega
      go_enter Tryd.func18, Tryd.ntmps18
      go_wp2_with fail
      refine HU.out.mono ?_
      rintro r w1 ⟨⟨v, rfl, hv⟩, hq, hf⟩
      go_wp2
      go_ret2
      exact ⟨⟨_, rfl, hv.mono (by simp)⟩, hq, HF.out.trans hf⟩
    · go_enter Tryd.func18, Tryd.ntmps18
      go_wp2_with fail
      refine HU.out.mono ?_
      rintro r w1 ⟨⟨v, rfl, hv⟩, hq, hf⟩
      go_wp2
      go_ret2
      exact ⟨⟨_, rfl, hv.mono (by simp)⟩, hq, HF.out.trans hf⟩
  · have hR : ronSt s e = ((rbelowP s e).1, (rbelowP s e).2, 0) := by unfold ronSt; rw [if_pos hw]
    rw [hR]
    have HU : Hid (Calls Tryd.prog 32 #[.pointer (some ⟨b, 0, none⟩), e.val] (boxed w e) (RBPost b (boxed w e) (rbelowP s e))) := by
      rcases hk with ⟨hk, h1, h2, _⟩ | ⟨hk, h1, h2⟩
      · exact rbelow1 b s e _ hpb hk h1 h2
      · exact rbelow2 b s e _ hpb hk h1 h2
    obtain ⟨R, hRR⟩ : ∃ R, rbelowP s e = R := ⟨_, rfl⟩
    rw [hRR] at HU ⊢
    clear hRR hR
    have HF := Lib.hid hfb
    clear hfb hpb
    obtain ⟨way, kind, ea, eb, ec, data⟩ := e
    dsimp only [Ev.val] at HU HF hw hk ⊢
    subst hw
    have hz : ea = 0 ∨ (ea == 0) = false := by by_cases h : ea = 0; exact .inl h; exact .inr (by simpa using h)
    rcases hk with ⟨rfl, h1, h2, h3, h4⟩ | ⟨rfl, h1, h2⟩
    all_goals
      rcases hz with rfl | hz
      all_goals
        go_enter Tryd.func18, Tryd.ntmps18
        go_wp2_with fail
        refine HU.out.mono ?_
        rintro r w1 ⟨⟨v, rfl, hv⟩, hq, hf⟩
        go_wp2
        go_ret2
        exact ⟨⟨_, rfl, hv.mono (by simp)⟩, hq, HF.out.trans hf⟩
theorem ron_any (b : Nat) (s : RS) (e : Ev) (w : World) (hp : Pt w b RSide s.cells) (hm : s.made = true) :
    Calls Tryd.prog 18 #[.pointer (some ⟨b, 0, none⟩), e.val] w (RPost b w (if onFine e then ronSt s e else (s, [], 1))) := by
  by_cases h : onFine e = true
  · rw [if_pos h]
    exact ron_ok b s e w hp hm h
  · rw [if_neg h]
    rw [Bool.not_eq_true] at h
    exact (ron_bad b s e w hp hm h).mono fun r w' ⟨h1, h2, h3⟩ => ⟨⟨_, h1, .inl ⟨rfl, rfl⟩⟩, h2, h3⟩
end Go.Proofs.YtkkmjjddalpocaaDoor
