import Derived.Test.YtkkmjjddalpocaaDoorRef3
import Derived.StillTailTactics
namespace Go.Proofs.YtkkmjjddalpocaaDoor
open Go.RowKit
set_option linter.unusedVariables false
set_option linter.unusedSimpArgs false
set_option maxHeartbeats 2000000
/-! ### The user of the reference's side -/
def RPost (b : Nat) (w : World) (R : RS × List Ev × Int) (r : Ending) (w' : World) : Prop := (∃ v, r = .returned (.tuple #[v, .int .i64 R.2.2]) ∧ EvRes w.heap.size w' v R.2.1) ∧ Pt w' b RSide R.1.cells ∧ Fr [b] w w'
def ruserP (s : RS) (e : Ev) : RS × List Ev × Int :=
  if e.kind = 1 then if s.allB e.a 2 then (s, [downEv 1 e.a e.b], 0) else (s, [], 8)
  else if e.kind = 2 then if s.allB e.a 1 then (s.giveT e.a 2 4, [downEv 2 e.a 0], 0) else (s, [], 8)
  else if s.setV 1 = 0 then (s, [], 8) else if s.allB (s.setV 1) 1 then (s.giveT (s.setV 1) 2 4, [downEv 2 (s.setV 1) 0], 0) else (s, [], 8)
theorem setV_in (s : RS) (v : Int) : 0 ≤ s.setV v ∧ s.setV v ≤ 15 := by
  have i3 := bt01_in (s.h3 == v)
  have i2 := bt01_in (s.h2 == v)
  have i1 := bt01_in (s.h1 == v)
  have i0 := bt01_in (s.h0 == v)
  unfold RS.setV; omega
section
variable (b : Nat) (s : RS) (e : Ev) (w : World)
theorem user1 (hp : Pt w b RSide s.cells) (hk : e.kind = 1) (a0 : 0 ≤ e.a) (a1 : e.a ≤ 15) :
    Calls Tryd.prog 31 #[.pointer (some ⟨b, 0, none⟩), e.val] w (RPost b w (ruserP s e)) := by
  have HP := Lib.hid hp
  have hR : ruserP s e = if s.allB e.a 2 then (s, [downEv 1 e.a e.b], 0) else (s, [], 8) := by unfold ruserP; rw [if_pos hk]
  have HR := Lib.hid hR
  clear hR
  have HA := Lib.hid (rall_any b s e.a 2 (boxed w e) (hp.alloc _) a0 a1)
  have hlt := hp.lt
  clear hp
  obtain ⟨way, kind, ea, eb, ec, data⟩ := e
  dsimp only [Ev.val] at HR HA hk a0 a1 ⊢
  subst hk
  rcases ht : s.allB ea 2 with _ | _
  all_goals
    rw [ht] at HR HA
    go_enter Tryd.func31, Tryd.ntmps31
    go_wp2_with fail
    refine HA.out.mono ?_
    rintro r w' ⟨rfl, rfl⟩
    go_wp2
    go_ret2
    unfold RPost
    rw [HR.out]
  · exact ⟨⟨_, rfl, .inl ⟨rfl, rfl⟩⟩, HP.out.alloc _, (Fr.refl _ _).alloc _⟩
  · exact ⟨⟨_, rfl, .inr ⟨_, downEv 1 ea eb, rfl, rfl, Pt.newAt _ _ _ (by simp), by simp⟩⟩, (HP.out.alloc _).alloc _, ((Fr.refl _ _).alloc _).alloc _⟩
theorem user2 (hp : Pt w b RSide s.cells) (hk : e.kind = 2) (a0 : 0 ≤ e.a) (a1 : e.a ≤ 15) :
    Calls Tryd.prog 31 #[.pointer (some ⟨b, 0, none⟩), e.val] w (RPost b w (ruserP s e)) := by
  have HP := Lib.hid hp
  have hR : ruserP s e = if s.allB e.a 1 then (s.giveT e.a 2 4, [downEv 2 e.a 0], 0) else (s, [], 8) := by unfold ruserP; rw [if_neg (by omega), if_pos hk]
  have HR := Lib.hid hR
  clear hR
  have HA := Lib.hid (rall_any b s e.a 1 (boxed w e) (hp.alloc _) a0 a1)
  have HG := Lib.hid (rgive_any b s e.a 2 (boxed w e) (hp.alloc _) a0 a1)
  have hlt := hp.lt
  have hbx : Pt (boxed w e) w.heap.size TEv e.cells := Pt.newA _ _ _
  have HB := Lib.hid hbx
  clear hp hbx
  obtain ⟨way, kind, ea, eb, ec, data⟩ := e
  dsimp only [Ev.val] at HR HA HG hk a0 a1 ⊢
  subst hk
  rcases ht : s.allB ea 1 with _ | _
  · rw [ht] at HR HA
    go_enter Tryd.func31, Tryd.ntmps31
    go_wp2_with fail
    refine HA.out.mono ?_
    rintro r w' ⟨rfl, rfl⟩
    go_wp2
    go_ret2
    unfold RPost
    rw [HR.out]
    exact ⟨⟨_, rfl, .inl ⟨rfl, rfl⟩⟩, HP.out.alloc _, (Fr.refl _ _).alloc _⟩
  · rw [ht] at HR HA
    go_enter Tryd.func31, Tryd.ntmps31
    go_wp2_with fail
    refine HA.out.mono ?_
    rintro r w' ⟨rfl, rfl⟩
    go_wp2_with fail
    refine HG.out.mono ?_
    rintro r w1 ⟨rfl, hq, hf⟩
    have hs := hf.size
    go_wp2
    go_ret2
    unfold RPost
    rw [HR.out]
    exact ⟨⟨_, rfl, .inr ⟨_, downEv 2 ea 0, rfl, rfl, Pt.newA _ _ _, by simp at hs; omega⟩⟩, hq.alloc _, (((Fr.refl [b] w).alloc _).trans hf).alloc _⟩
theorem user3 (hp : Pt w b RSide s.cells) (hk : e.kind = 3) :
    Calls Tryd.prog 31 #[.pointer (some ⟨b, 0, none⟩), e.val] w (RPost b w (ruserP s e)) := by
  have HP := Lib.hid hp
  have hR : ruserP s e = if s.setV 1 = 0 then (s, [], 8) else if s.allB (s.setV 1) 1 then (s.giveT (s.setV 1) 2 4, [downEv 2 (s.setV 1) 0], 0) else (s, [], 8) := by unfold ruserP; rw [if_neg (by omega), if_neg (by omega)]
  have HR := Lib.hid hR
  clear hR
  obtain ⟨a0, a1⟩ := setV_in s 1
  have HS := Lib.hid (rset_any b s 1 (boxed w e) (hp.alloc _))
  have HA := Lib.hid (rall_any b s (s.setV 1) 1 (boxed w e) (hp.alloc _) a0 a1)
  have HG := Lib.hid (rgive_any b s (s.setV 1) 2 (boxed w e) (hp.alloc _) a0 a1)
  have hlt := hp.lt
  clear hp
  obtain ⟨way, kind, ea, eb, ec, data⟩ := e
  dsimp only [Ev.val] at HR HS HA HG hk a0 a1 ⊢
  subst hk
  obtain ⟨u, hu⟩ : ∃ u, s.setV 1 = u := ⟨_, rfl⟩
  rw [hu] at HR HS HA HG a0 a1
  clear hu
  by_cases hu0 : u = 0
  · rw [if_pos hu0] at HR
    have h00 : (u == 0) = true := by simpa using hu0
    clear hu0
    go_enter Tryd.func31, Tryd.ntmps31
    go_wp2_with fail
    refine HS.out.mono ?_
    rintro r w' ⟨rfl, rfl⟩
    go_wp2
    go_ret2
    unfold RPost
    rw [HR.out]
    exact ⟨⟨_, rfl, .inl ⟨rfl, rfl⟩⟩, HP.out.alloc _, (Fr.refl _ _).alloc _⟩
  · rw [if_neg hu0] at HR
    have h00 : (u == 0) = false := by simpa using hu0
    clear hu0
    rcases ht : s.allB u 1 with _ | _
    · rw [ht] at HR HA
      go_enter Tryd.func31, Tryd.ntmps31
      go_wp2_with fail
      refine HS.out.mono ?_
      rintro r w' ⟨rfl, rfl⟩
      go_wp2_with fail
      refine HA.out.mono ?_
      rintro r w' ⟨rfl, rfl⟩
      go_wp2
      go_ret2
      unfold RPost
      rw [HR.out]
      exact ⟨⟨_, rfl, .inl ⟨rfl, rfl⟩⟩, HP.out.alloc _, (Fr.refl _ _).alloc _⟩
    · rw [ht] at HR HA
      go_enter Tryd.func31, Tryd.ntmps31
      go_wp2_with fail
      refine HS.out.mono ?_
      rintro r w' ⟨rfl, rfl⟩
      go_wp2_with fail
      refine HA.out.mono ?_
      rintro r w' ⟨rfl, rfl⟩
      go_wp2_with fail
      refine HG.out.mono ?_
      rintro r w1 ⟨rfl, hq, hf⟩
      have hs := hf.size
      go_wp2
      go_ret2
      unfold RPost
      rw [HR.out]
      exact ⟨⟨_, rfl, .inr ⟨_, downEv 2 u 0, rfl, rfl, Pt.newA _ _ _, by simp at hs; omega⟩⟩, hq.alloc _, (((Fr.refl [b] w).alloc _).trans hf).alloc _⟩
end
/-! ### What comes from the other side -/
def RS.told (s : RS) (a v : Int) : Int := 8 * bt01 (inB a 3 && s.h3 == v) + 4 * bt01 (inB a 2 && s.h2 == v) + 2 * bt01 (inB a 1 && s.h1 == v) + bt01 (inB a 0 && s.h0 == v)
def RS.toldT (s : RS) (a v : Int) (i : Int) : Int :=
  if i = 3 then 0 else if i = 2 then bt01 (inB a 3 && s.h3 == v) else if i = 1 then 2 * bt01 (inB a 3 && s.h3 == v) + bt01 (inB a 2 && s.h2 == v) else if i = 0 then 4 * bt01 (inB a 3 && s.h3 == v) + 2 * bt01 (inB a 2 && s.h2 == v) + bt01 (inB a 1 && s.h1 == v) else s.told a v
theorem told_in (s : RS) (a v : Int) : 0 ≤ s.told a v ∧ s.told a v ≤ 15 := by
  have i3 := bt01_in (inB a 3 && s.h3 == v)
  have i2 := bt01_in (inB a 2 && s.h2 == v)
  have i1 := bt01_in (inB a 1 && s.h1 == v)
  have i0 := bt01_in (inB a 0 && s.h0 == v)
  unfold RS.told; omega
def RS.askT (s : RS) (set v : Int) (k : Nat) : RS :=
  let s0 := if 0 < k ∧ inB set 0 = true then { s with a0 := max s.a0 v } else s
  let s1 := if 1 < k ∧ inB set 1 = true then { s0 with a1 := max s0.a1 v } else s0
  let s2 := if 2 < k ∧ inB set 2 = true then { s1 with a2 := max s1.a2 v } else s1
  if 3 < k ∧ inB set 3 = true then { s2 with a3 := max s2.a3 v } else s2
def rbelowP (s : RS) (e : Ev) : RS × List Ev :=
  if e.kind = 2 then if s.told e.a 2 = 0 then (s, []) else (s.giveT (s.told e.a 2) 1 4, [toldEv 2 (s.told e.a 2) 0])
  else if s.told e.a 1 = 0 then (s, []) else (s.askT (s.told e.a 1) e.b 4, [toldEv 1 (s.told e.a 1) e.b])
def RBPost (b : Nat) (w : World) (R : RS × List Ev) (r : Ending) (w' : World) : Prop := (∃ v, r = .returned v ∧ EvRes w.heap.size w' v R.2) ∧ Pt w' b RSide R.1.cells ∧ Fr [b] w w'
end Go.Proofs.YtkkmjjddalpocaaDoor
